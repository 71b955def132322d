/- What the reference's slopes gives. -/
import Derived.Test.YtlblocieleildaaSk16
set_option linter.unusedSimpArgs false
set_option linter.unusedVariables false
set_option maxRecDepth 20000
set_option maxHeartbeats 8000000
namespace Go.Proofs.Ytlblocieleildaa
open Go.Am

/-- the reference's bounds: over all pairs of gates, in their order -/
def rgP (l : List Gt) (i j : Nat) : Int × Int := ((gt l j).hi - (gt l i).lo, (gt l j).x - (gt l i).x)
def rlP (l : List Gt) (i j : Nat) : Int × Int := ((gt l j).lo - (gt l i).hi, (gt l j).x - (gt l i).x)
def bdL : Bd := ⟨true, -1099511627776, 1⟩
def bdG : Bd := ⟨true, 1099511627776, 1⟩
def gR (ps : List (Int × Int)) : Bd := ps.foldl (fun b p => atMostZ b p.1 p.2) bdG
def lR (ps : List (Int × Int)) : Bd := ps.foldl (fun b p => atLeastZ b p.1 p.2) bdL
/-- the pairs of i with those between i and j -/
def inn (f : Nat → Nat → Int × Int) (i j : Nat) : List (Int × Int) := (List.range (j - (i + 1))).map fun t => f i (i + 1 + t)
def outr (f : Nat → Nat → Int × Int) (n i : Nat) : List (Int × Int) := (List.range i).flatMap fun k => inn f k n
theorem inn_step (f : Nat → Nat → Int × Int) {i j : Nat} (h : i < j) : inn f i (j + 1) = inn f i j ++ [f i j] := by
  unfold inn
  rw [show j + 1 - (i + 1) = (j - (i + 1)) + 1 by omega, List.range_succ, List.map_append]
  simp only [List.map_cons, List.map_nil, show i + 1 + (j - (i + 1)) = j by omega]
theorem inn_nil (f : Nat → Nat → Int × Int) (i : Nat) : inn f i (i + 1) = [] := by unfold inn; simp
theorem outr_step (f : Nat → Nat → Int × Int) (n i : Nat) : outr f n (i + 1) = outr f n i ++ inn f i n := by
  unfold outr
  rw [List.range_succ, List.flatMap_append]
  simp only [List.flatMap_cons, List.flatMap_nil, List.append_nil]
theorem gR_one (ps : List (Int × Int)) (p : Int × Int) : gR (ps ++ [p]) = atMostZ (gR ps) p.1 p.2 := by unfold gR; rw [List.foldl_append]; rfl
theorem lR_one (ps : List (Int × Int)) (p : Int × Int) : lR (ps ++ [p]) = atLeastZ (lR ps) p.1 p.2 := by unfold lR; rw [List.foldl_append]; rfl
/-- the four blocks of the reference's slopes -/
structure Rw (h h1 : Heap) (b g : Bd) : Prop where
  ex : Ext h h1
  nx : h.next + 1 + 1 + 1 + 1 ≤ h1.next
  z2 : h1.get h.next = some ⟨[.int .i64 0, .int .i64 0], true, false, none⟩
  z3 : h1.get (h.next + 1) = some ⟨[.int .i64 0, .int .i64 0], true, false, none⟩
  gl : h1.get (h.next + 1 + 1) = some ⟨[.int .i64 b.n, .int .i64 b.d], true, false, none⟩
  gg : h1.get (h.next + 1 + 1 + 1) = some ⟨[.int .i64 g.n, .int .i64 g.d], true, false, none⟩
  sb : b.s = true
  sg : g.s = true
  db : b.d ≠ 0
  dg : g.d ≠ 0
theorem Rw.grow {h h1 h2 : Heap} {b g : Bd} (t : Rw h h1 b g) (ex : Ext h h2) (hn : h1.next ≤ h2.next) (hg : ∀ b, b < h1.next → h2.get b = h1.get b) : Rw h h2 b g :=
  have := t.nx
  ⟨ex, Nat.le_trans t.nx hn, (hg _ (by omega)).trans t.z2, (hg _ (by omega)).trans t.z3, (hg _ (by omega)).trans t.gl, (hg _ (by omega)).trans t.gg, t.sb, t.sg, t.db, t.dg⟩
theorem Rw.least {h h1 : Heap} {b g : Bd} {n d : Int} (t : Rw h h1 b g) (hd : 0 < d) (hl : lessZ b.n b.d (quoN n d) (quoD n d) = true) : Rw h (h1.set (h.next + 1 + 1) ⟨[.int .i64 (quoN n d), .int .i64 (quoD n d)], true, false, none⟩) (atLeastZ b n d) g := by
  have := t.nx
  have e : atLeastZ b n d = ⟨true, quoN n d, quoD n d⟩ := by unfold atLeastZ; rw [if_pos (.inr hl)]
  rw [e]
  exact ⟨t.ex.set (by omega) _, t.nx, (Heap.get_set_ne _ _ (by omega)).trans t.z2, (Heap.get_set_ne _ _ (by omega)).trans t.z3, Heap.get_set_same _ _ _, (Heap.get_set_ne _ _ (by omega)).trans t.gg, rfl, t.sg, quoD_ne hd, t.dg⟩
theorem Rw.least' {h h1 : Heap} {b g : Bd} {n d : Int} (t : Rw h h1 b g) (hl : lessZ b.n b.d (quoN n d) (quoD n d) = false) : Rw h h1 (atLeastZ b n d) g := by
  have e : atLeastZ b n d = b := by unfold atLeastZ; rw [if_neg (by rw [t.sb, hl]; simp)]
  rw [e]; exact t
theorem Rw.most {h h1 : Heap} {b g : Bd} {n d : Int} (t : Rw h h1 b g) (hd : 0 < d) (hl : lessZ (quoN n d) (quoD n d) g.n g.d = true) : Rw h (h1.set (h.next + 1 + 1 + 1) ⟨[.int .i64 (quoN n d), .int .i64 (quoD n d)], true, false, none⟩) b (atMostZ g n d) := by
  have := t.nx
  have e : atMostZ g n d = ⟨true, quoN n d, quoD n d⟩ := by unfold atMostZ; rw [if_pos (.inr hl)]
  rw [e]
  exact ⟨t.ex.set (by omega) _, t.nx, (Heap.get_set_ne _ _ (by omega)).trans t.z2, (Heap.get_set_ne _ _ (by omega)).trans t.z3, (Heap.get_set_ne _ _ (by omega)).trans t.gl, Heap.get_set_same _ _ _, t.sb, rfl, t.db, quoD_ne hd⟩
theorem Rw.most' {h h1 : Heap} {b g : Bd} {n d : Int} (t : Rw h h1 b g) (hl : lessZ (quoN n d) (quoD n d) g.n g.d = false) : Rw h h1 b (atMostZ g n d) := by
  have e : atMostZ g n d = g := by unfold atMostZ; rw [if_neg (by rw [t.sg, hl]; simp)]
  rw [e]; exact t
structure I29 (l : List Gt) (a : Option Addr) (c : Nat) (h : Heap) (i : Nat) (e : Env) (h1 : Heap) : Prop where
  t : Rw h h1 (lR (outr (rlP l) l.length i)) (gR (outr (rgP l) l.length i))
  e0 : e.get 0 = .slice a l.length c
  e2 : e.get 2 = .pointer (some ⟨h.next, 0, none⟩)
  e3 : e.get 3 = .pointer (some ⟨h.next + 1, 0, none⟩)
  e4 : e.get 4 = .pointer (some ⟨h.next + 1 + 1, 0, none⟩)
  e5 : e.get 5 = .pointer (some ⟨h.next + 1 + 1 + 1, 0, none⟩)
  e6 : e.get 6 = .int .i64 (i : Int)
  le : i ≤ l.length
structure J29 (l : List Gt) (a : Option Addr) (c : Nat) (h : Heap) (i : Nat) (j : Nat) (e : Env) (h1 : Heap) : Prop where
  t : Rw h h1 (lR (outr (rlP l) l.length i ++ inn (rlP l) i j)) (gR (outr (rgP l) l.length i ++ inn (rgP l) i j))
  e0 : e.get 0 = .slice a l.length c
  e2 : e.get 2 = .pointer (some ⟨h.next, 0, none⟩)
  e3 : e.get 3 = .pointer (some ⟨h.next + 1, 0, none⟩)
  e4 : e.get 4 = .pointer (some ⟨h.next + 1 + 1, 0, none⟩)
  e5 : e.get 5 = .pointer (some ⟨h.next + 1 + 1 + 1, 0, none⟩)
  e6 : e.get 6 = .int .i64 (i : Int)
  e7 : e.get 7 = .int .i64 (j : Int)
  lt : i < j
  le : j ≤ l.length
theorem c29 (l : List Gt) (a : Option Addr) (c : Nat) (h : Heap) (hg : GA h l a) (o : Ok l) (hl : l.length ≤ 24) :
    callW Try.prog SkH 29 [.slice a l.length c] h = some (.tuple #[.agg #[.int .i64 (lR (outr (rlP l) l.length l.length)).n, .int .i64 (lR (outr (rlP l) l.length l.length)).d], .agg #[.int .i64 (gR (outr (rgP l) l.length l.length)).n, .int .i64 (gR (outr (rgP l) l.length l.length)).d]], h, true) := by
  refine call_flat (rs := [.cell 2 26, .cell 3 26]) [_, _] Try.func29 rfl rfl ?_ ?_
  rotate_left
  · skip
    refine W.forget (fun e1 he1 => ?_)
    have f0_1 := congrArg (fun q => Env.get q 0) he1
    simp only [ofList_cons, ofList_nil, Env.put_some, Env.put_none, Env.get_set, Env.get_set, Nat.reduceEqDiff, reduceIte, if_true, if_false, eq_self] at f0_1
    clear he1
    refine W.seq ?_
    refine W.region (fun K hK => ?_)
    simp (config := { maxSteps := 10000000 }) only [go_sem, ↓forkQ_true, ↓forkQ_false, ↓guardQ_some, ↓resQ_val, ↓resQ_unit, ↓resQ_enter, ↓retQ_some, ↓resFQ_val, ↓resFQ_unit, ↓resFQ_enter, ↓retFQ_some, Nat.reduceEqDiff, reduceIte, Nat.reduceAdd, Nat.reduceMul, Nat.reduceSub, reduceCtorEq, Nat.reduceLeDiff, f0_1]
    refine hK _ _ ?_
    clear hK K
    refine W.forget (fun e2 he2 => ?_)
    have f0_2 := congrArg (fun q => Env.get q 0) he2
    simp only [Env.put_some, Env.put_none, Env.get_set, Env.get_set, Nat.reduceEqDiff, reduceIte, if_true, if_false, eq_self, f0_1] at f0_2
    have f2_2 := congrArg (fun q => Env.get q 2) he2
    simp only [Env.put_some, Env.put_none, Env.get_set, Env.get_set, Nat.reduceEqDiff, reduceIte, if_true, if_false, eq_self] at f2_2
    have f3_2 := congrArg (fun q => Env.get q 3) he2
    simp only [Env.put_some, Env.put_none, Env.get_set, Env.get_set, Nat.reduceEqDiff, reduceIte, if_true, if_false, eq_self] at f3_2
    clear he2 f0_1
    refine W.thenN ?_
    refine W.seq ?_
    refine W.region (fun K hK => ?_)
    simp (config := { maxSteps := 10000000 }) only [go_sem, ↓forkQ_true, ↓forkQ_false, ↓guardQ_some, ↓resQ_val, ↓resQ_unit, ↓resQ_enter, ↓retQ_some, ↓resFQ_val, ↓resFQ_unit, ↓resFQ_enter, ↓retFQ_some, Nat.reduceEqDiff, reduceIte, Nat.reduceAdd, Nat.reduceMul, Nat.reduceSub, reduceCtorEq, Nat.reduceLeDiff, f0_2, f2_2, f3_2]
    refine hK _ _ ?_
    clear hK K
    refine W.forget (fun e3 he3 => ?_)
    have f0_3 := congrArg (fun q => Env.get q 0) he3
    simp only [Env.put_some, Env.put_none, Env.get_set, Env.get_set, Nat.reduceEqDiff, reduceIte, if_true, if_false, eq_self, f0_2] at f0_3
    have f2_3 := congrArg (fun q => Env.get q 2) he3
    simp only [Env.put_some, Env.put_none, Env.get_set, Env.get_set, Nat.reduceEqDiff, reduceIte, if_true, if_false, eq_self, f2_2] at f2_3
    have f3_3 := congrArg (fun q => Env.get q 3) he3
    simp only [Env.put_some, Env.put_none, Env.get_set, Env.get_set, Nat.reduceEqDiff, reduceIte, if_true, if_false, eq_self, f3_2] at f3_3
    have f4_3 := congrArg (fun q => Env.get q 4) he3
    simp only [Env.put_some, Env.put_none, Env.get_set, Env.get_set, Nat.reduceEqDiff, reduceIte, if_true, if_false, eq_self] at f4_3
    have f5_3 := congrArg (fun q => Env.get q 5) he3
    simp only [Env.put_some, Env.put_none, Env.get_set, Env.get_set, Nat.reduceEqDiff, reduceIte, if_true, if_false, eq_self] at f5_3
    clear he3 f0_2 f2_2 f3_2
    refine W.thenN ?_
    refine W.seq ?_
    refine W.seq ?_
    refine W.region (fun K hK => ?_)
    simp (config := { maxSteps := 10000000 }) only [go_sem, ↓forkQ_true, ↓forkQ_false, ↓guardQ_some, ↓resQ_val, ↓resQ_unit, ↓resQ_enter, ↓retQ_some, ↓resFQ_val, ↓resFQ_unit, ↓resFQ_enter, ↓retFQ_some, Nat.reduceEqDiff, reduceIte, Nat.reduceAdd, Nat.reduceMul, Nat.reduceSub, reduceCtorEq, Nat.reduceLeDiff, f0_3, f2_3, f3_3, f4_3, f5_3]
    refine hK _ _ ?_
    clear hK K
    refine W.forget (fun e4 he4 => ?_)
    have f0_4 := congrArg (fun q => Env.get q 0) he4
    simp only [Env.put_some, Env.put_none, Env.get_set, Env.get_set, Nat.reduceEqDiff, reduceIte, if_true, if_false, eq_self, f0_3] at f0_4
    have f2_4 := congrArg (fun q => Env.get q 2) he4
    simp only [Env.put_some, Env.put_none, Env.get_set, Env.get_set, Nat.reduceEqDiff, reduceIte, if_true, if_false, eq_self, f2_3] at f2_4
    have f3_4 := congrArg (fun q => Env.get q 3) he4
    simp only [Env.put_some, Env.put_none, Env.get_set, Env.get_set, Nat.reduceEqDiff, reduceIte, if_true, if_false, eq_self, f3_3] at f3_4
    have f4_4 := congrArg (fun q => Env.get q 4) he4
    simp only [Env.put_some, Env.put_none, Env.get_set, Env.get_set, Nat.reduceEqDiff, reduceIte, if_true, if_false, eq_self, f4_3] at f4_4
    have f5_4 := congrArg (fun q => Env.get q 5) he4
    simp only [Env.put_some, Env.put_none, Env.get_set, Env.get_set, Nat.reduceEqDiff, reduceIte, if_true, if_false, eq_self, f5_3] at f5_4
    have f6_4 := congrArg (fun q => Env.get q 6) he4
    simp only [Env.put_some, Env.put_none, Env.get_set, Env.get_set, Nat.reduceEqDiff, reduceIte, if_true, if_false, eq_self] at f6_4
    clear he4 f0_3 f2_3 f3_3 f4_3 f5_3
    refine W.thenN ?_
    refine W.block ?_
    refine wq_rounds (fun i => l.length - i) (I29 l a c h) ?_ 0 _ _ ?_
    · intro i e5 k1 hi
      have f0_5 := hi.e0
      have f2_5 := hi.e2
      have f3_5 := hi.e3
      have f4_5 := hi.e4
      have f5_5 := hi.e5
      have f6_5 := hi.e6
      have ex := hi.t.ex
      have hle := hi.le
      have hadd : wrapF .i64 ((i : Int) + 1) = ((i + 1 : Nat) : Int) := by rw [w64_in _ (by omega)]; omega
      refine W.seq ?_
      refine W.seq ?_
      refine W.region (fun K hK => ?_)
      simp (config := { maxSteps := 10000000 }) only [go_sem, ↓forkQ_true, ↓forkQ_false, ↓guardQ_some, ↓resQ_val, ↓resQ_unit, ↓resQ_enter, ↓retQ_some, ↓resFQ_val, ↓resFQ_unit, ↓resFQ_enter, ↓retFQ_some, Nat.reduceEqDiff, reduceIte, Nat.reduceAdd, Nat.reduceMul, Nat.reduceSub, reduceCtorEq, Nat.reduceLeDiff, f0_5, f2_5, f3_5, f4_5, f5_5, f6_5, hadd]
      refine hK _ _ ?_
      clear hK K
      refine W.forget (fun e6 he6 => ?_)
      have f0_6 := congrArg (fun q => Env.get q 0) he6
      simp only [Env.put_some, Env.put_none, Env.get_set, Env.get_set, Nat.reduceEqDiff, reduceIte, if_true, if_false, eq_self, f0_5] at f0_6
      have f2_6 := congrArg (fun q => Env.get q 2) he6
      simp only [Env.put_some, Env.put_none, Env.get_set, Env.get_set, Nat.reduceEqDiff, reduceIte, if_true, if_false, eq_self, f2_5] at f2_6
      have f3_6 := congrArg (fun q => Env.get q 3) he6
      simp only [Env.put_some, Env.put_none, Env.get_set, Env.get_set, Nat.reduceEqDiff, reduceIte, if_true, if_false, eq_self, f3_5] at f3_6
      have f4_6 := congrArg (fun q => Env.get q 4) he6
      simp only [Env.put_some, Env.put_none, Env.get_set, Env.get_set, Nat.reduceEqDiff, reduceIte, if_true, if_false, eq_self, f4_5] at f4_6
      have f5_6 := congrArg (fun q => Env.get q 5) he6
      simp only [Env.put_some, Env.put_none, Env.get_set, Env.get_set, Nat.reduceEqDiff, reduceIte, if_true, if_false, eq_self, f5_5] at f5_6
      have f6_6 := congrArg (fun q => Env.get q 6) he6
      simp only [Env.put_some, Env.put_none, Env.get_set, Env.get_set, Nat.reduceEqDiff, reduceIte, if_true, if_false, eq_self, f6_5] at f6_6
      have f16_6 := congrArg (fun q => Env.get q 16) he6
      simp only [Env.put_some, Env.put_none, Env.get_set, Env.get_set, Nat.reduceEqDiff, reduceIte, if_true, if_false, eq_self] at f16_6
      clear he6 f0_5 f2_5 f3_5 f4_5 f5_5 f6_5
      refine W.thenN ?_
      refine W.cond f16_6 (fun hc7 => ?_) (fun hc7 => ?_)
      · first
        | (cases hc7; done)
        | (exfalso; simp only [decide_eq_true_eq, decide_eq_false_iff_not, Bool.not_eq_true', Bool.not_eq_false', Bool.not_eq_eq_eq_not, Bool.not_true, Bool.not_false] at hc7; omega)
        | (skip
           try simp only [decide_eq_true_eq, decide_eq_false_iff_not, Bool.not_eq_true', Bool.not_eq_false', Bool.not_eq_eq_eq_not, Bool.not_true, Bool.not_false] at hc7
           refine W.skip ?_
           refine W.thenN ?_
           refine W.seq ?_
           refine W.block ?_
           refine W.seq ?_
           refine W.region (fun K hK => ?_)
           simp (config := { maxSteps := 10000000 }) only [go_sem, ↓forkQ_true, ↓forkQ_false, ↓guardQ_some, ↓resQ_val, ↓resQ_unit, ↓resQ_enter, ↓retQ_some, ↓resFQ_val, ↓resFQ_unit, ↓resFQ_enter, ↓retFQ_some, Nat.reduceEqDiff, reduceIte, Nat.reduceAdd, Nat.reduceMul, Nat.reduceSub, reduceCtorEq, Nat.reduceLeDiff, f0_6, f2_6, f3_6, f4_6, f5_6, f6_6, f16_6, hadd]
           refine hK _ _ ?_
           clear hK K
           refine W.forget (fun e8 he8 => ?_)
           have f0_8 := congrArg (fun q => Env.get q 0) he8
           simp only [Env.put_some, Env.put_none, Env.get_set, Env.get_set, Nat.reduceEqDiff, reduceIte, if_true, if_false, eq_self, f0_6] at f0_8
           have f2_8 := congrArg (fun q => Env.get q 2) he8
           simp only [Env.put_some, Env.put_none, Env.get_set, Env.get_set, Nat.reduceEqDiff, reduceIte, if_true, if_false, eq_self, f2_6] at f2_8
           have f3_8 := congrArg (fun q => Env.get q 3) he8
           simp only [Env.put_some, Env.put_none, Env.get_set, Env.get_set, Nat.reduceEqDiff, reduceIte, if_true, if_false, eq_self, f3_6] at f3_8
           have f4_8 := congrArg (fun q => Env.get q 4) he8
           simp only [Env.put_some, Env.put_none, Env.get_set, Env.get_set, Nat.reduceEqDiff, reduceIte, if_true, if_false, eq_self, f4_6] at f4_8
           have f5_8 := congrArg (fun q => Env.get q 5) he8
           simp only [Env.put_some, Env.put_none, Env.get_set, Env.get_set, Nat.reduceEqDiff, reduceIte, if_true, if_false, eq_self, f5_6] at f5_8
           have f6_8 := congrArg (fun q => Env.get q 6) he8
           simp only [Env.put_some, Env.put_none, Env.get_set, Env.get_set, Nat.reduceEqDiff, reduceIte, if_true, if_false, eq_self, f6_6] at f6_8
           have f7_8 := congrArg (fun q => Env.get q 7) he8
           simp only [Env.put_some, Env.put_none, Env.get_set, Env.get_set, Nat.reduceEqDiff, reduceIte, if_true, if_false, eq_self] at f7_8
           clear he8 f0_6 f2_6 f3_6 f4_6 f5_6 f6_6 f16_6
           refine W.thenN ?_
           refine W.block ?_
           refine wq_rounds (fun j => l.length - j) (J29 l a c h i) ?_ (i + 1) _ _ ?_
           · intro j e9 k2 hj
             have f0_9 := hj.e0
             have f2_9 := hj.e2
             have f3_9 := hj.e3
             have f4_9 := hj.e4
             have f5_9 := hj.e5
             have f6_9 := hj.e6
             have f7_9 := hj.e7
             have exj := hj.t.ex
             have hlej := hj.le
             have hltj := hj.lt
             have haddj : wrapF .i64 ((j : Int) + 1) = ((j + 1 : Nat) : Int) := by rw [w64_in _ (by omega)]; omega
             refine W.seq ?_
             refine W.seq ?_
             refine W.region (fun K hK => ?_)
             simp (config := { maxSteps := 10000000 }) only [go_sem, ↓forkQ_true, ↓forkQ_false, ↓guardQ_some, ↓resQ_val, ↓resQ_unit, ↓resQ_enter, ↓retQ_some, ↓resFQ_val, ↓resFQ_unit, ↓resFQ_enter, ↓retFQ_some, Nat.reduceEqDiff, reduceIte, Nat.reduceAdd, Nat.reduceMul, Nat.reduceSub, reduceCtorEq, Nat.reduceLeDiff, f0_9, f2_9, f3_9, f4_9, f5_9, f6_9, f7_9, hadd, haddj]
             refine hK _ _ ?_
             clear hK K
             refine W.forget (fun e10 he10 => ?_)
             have f0_10 := congrArg (fun q => Env.get q 0) he10
             simp only [Env.put_some, Env.put_none, Env.get_set, Env.get_set, Nat.reduceEqDiff, reduceIte, if_true, if_false, eq_self, f0_9] at f0_10
             have f2_10 := congrArg (fun q => Env.get q 2) he10
             simp only [Env.put_some, Env.put_none, Env.get_set, Env.get_set, Nat.reduceEqDiff, reduceIte, if_true, if_false, eq_self, f2_9] at f2_10
             have f3_10 := congrArg (fun q => Env.get q 3) he10
             simp only [Env.put_some, Env.put_none, Env.get_set, Env.get_set, Nat.reduceEqDiff, reduceIte, if_true, if_false, eq_self, f3_9] at f3_10
             have f4_10 := congrArg (fun q => Env.get q 4) he10
             simp only [Env.put_some, Env.put_none, Env.get_set, Env.get_set, Nat.reduceEqDiff, reduceIte, if_true, if_false, eq_self, f4_9] at f4_10
             have f5_10 := congrArg (fun q => Env.get q 5) he10
             simp only [Env.put_some, Env.put_none, Env.get_set, Env.get_set, Nat.reduceEqDiff, reduceIte, if_true, if_false, eq_self, f5_9] at f5_10
             have f6_10 := congrArg (fun q => Env.get q 6) he10
             simp only [Env.put_some, Env.put_none, Env.get_set, Env.get_set, Nat.reduceEqDiff, reduceIte, if_true, if_false, eq_self, f6_9] at f6_10
             have f7_10 := congrArg (fun q => Env.get q 7) he10
             simp only [Env.put_some, Env.put_none, Env.get_set, Env.get_set, Nat.reduceEqDiff, reduceIte, if_true, if_false, eq_self, f7_9] at f7_10
             have f24_10 := congrArg (fun q => Env.get q 24) he10
             simp only [Env.put_some, Env.put_none, Env.get_set, Env.get_set, Nat.reduceEqDiff, reduceIte, if_true, if_false, eq_self] at f24_10
             clear he10 f0_9 f2_9 f3_9 f4_9 f5_9 f6_9 f7_9
             refine W.thenN ?_
             refine W.cond f24_10 (fun hc11 => ?_) (fun hc11 => ?_)
             · first
               | (cases hc11; done)
               | (exfalso; simp only [decide_eq_true_eq, decide_eq_false_iff_not, Bool.not_eq_true', Bool.not_eq_false', Bool.not_eq_eq_eq_not, Bool.not_true, Bool.not_false] at hc11; omega)
               | (skip
                  try simp only [decide_eq_true_eq, decide_eq_false_iff_not, Bool.not_eq_true', Bool.not_eq_false', Bool.not_eq_eq_eq_not, Bool.not_true, Bool.not_false] at hc11
                  refine W.skip ?_
                  refine W.thenN ?_
                  refine W.seq ?_
                  refine W.block ?_
                  refine W.seq ?_
                  refine W.draw dr29_8 (fun K hK => ?_)
                  have hjn : j < l.length := by omega
                  have hin : i < l.length := by omega
                  have iri := inRange_nat hin
                  have irj := inRange_nat hjn
                  obtain ⟨b, blk, ext, ha0, hb, hcs, hbl⟩ := hg (ne_of_lt hin)
                  have hb' := (exj.get b hbl).trans hb
                  have ci0 := gcell0 (ext := ext) hin
                  have ci1 := gcell1 (ext := ext) hin
                  have ci2 := gcell2 (ext := ext) hin
                  have cj0 := gcell0 (ext := ext) hjn
                  have cj1 := gcell1 (ext := ext) hjn
                  have cj2 := gcell2 (ext := ext) hjn
                  have ri := o.rng i hin
                  have rj := o.rng j hjn
                  have hX := o.lt i j hltj hjn
                  have s0 : wrapF .i64 ((gt l j).x - (gt l i).x) = (gt l j).x - (gt l i).x := w64_in _ (by omega)
                  have s1 : wrapF .i64 ((gt l j).lo - (gt l i).hi) = (gt l j).lo - (gt l i).hi := w64_in _ (by omega)
                  have s2 : wrapF .i64 ((gt l j).hi - (gt l i).lo) = (gt l j).hi - (gt l i).lo := w64_in _ (by omega)
                  have r1 := c43 ((gt l j).lo - (gt l i).hi) ((gt l j).x - (gt l i).x) (by omega) (by omega)
                  have r2 := c43 ((gt l j).hi - (gt l i).lo) ((gt l j).x - (gt l i).x) (by omega) (by omega)
                  have hbn := exj.ne hbl
                  have hbn' := exj.ne' hbl
                  have hbn1 : (b = k2.next + 1) = False := eq_false (by have := exj.next; omega)
                  have hbn1' : (k2.next + 1 = b) = False := eq_false (by have := exj.next; omega)
                  have hf' := exj.fact'
                  have hw := exj.wr
                  simp (config := { maxSteps := 10000000 }) only [go_sem, ↓forkQ_true, ↓forkQ_false, ↓guardQ_some, ↓resQ_val, ↓resQ_unit, ↓resQ_enter, ↓retQ_some, ↓resFQ_val, ↓resFQ_unit, ↓resFQ_enter, ↓retFQ_some, Nat.reduceEqDiff, reduceIte, Nat.reduceAdd, Nat.reduceMul, Nat.reduceSub, reduceCtorEq, Nat.reduceLeDiff, f0_10, f2_10, f3_10, f4_10, f5_10, f6_10, f7_10, f24_10, hadd, haddj, ha0, iri, irj, hb', hcs, ci0, ci1, ci2, cj0, cj1, cj2, s0, s1, s2, r1, r2, hbn, hbn', hbn1, hbn1', hf', hw]
                  refine hK _ _ ?_
                  clear hK K
                  refine W.forget (fun e12 he12 => ?_)
                  have f0_12 := congrArg (fun q => Env.get q 0) he12
                  simp only [Env.put_some, Env.put_none, Env.get_set, Env.get_set, Nat.reduceEqDiff, reduceIte, if_true, if_false, eq_self, f0_10] at f0_12
                  have f2_12 := congrArg (fun q => Env.get q 2) he12
                  simp only [Env.put_some, Env.put_none, Env.get_set, Env.get_set, Nat.reduceEqDiff, reduceIte, if_true, if_false, eq_self, f2_10] at f2_12
                  have f3_12 := congrArg (fun q => Env.get q 3) he12
                  simp only [Env.put_some, Env.put_none, Env.get_set, Env.get_set, Nat.reduceEqDiff, reduceIte, if_true, if_false, eq_self, f3_10] at f3_12
                  have f4_12 := congrArg (fun q => Env.get q 4) he12
                  simp only [Env.put_some, Env.put_none, Env.get_set, Env.get_set, Nat.reduceEqDiff, reduceIte, if_true, if_false, eq_self, f4_10] at f4_12
                  have f5_12 := congrArg (fun q => Env.get q 5) he12
                  simp only [Env.put_some, Env.put_none, Env.get_set, Env.get_set, Nat.reduceEqDiff, reduceIte, if_true, if_false, eq_self, f5_10] at f5_12
                  have f6_12 := congrArg (fun q => Env.get q 6) he12
                  simp only [Env.put_some, Env.put_none, Env.get_set, Env.get_set, Nat.reduceEqDiff, reduceIte, if_true, if_false, eq_self, f6_10] at f6_12
                  have f7_12 := congrArg (fun q => Env.get q 7) he12
                  simp only [Env.put_some, Env.put_none, Env.get_set, Env.get_set, Nat.reduceEqDiff, reduceIte, if_true, if_false, eq_self, f7_10] at f7_12
                  have f8_12 := congrArg (fun q => Env.get q 8) he12
                  simp only [Env.put_some, Env.put_none, Env.get_set, Env.get_set, Nat.reduceEqDiff, reduceIte, if_true, if_false, eq_self] at f8_12
                  clear he12 f0_10 f2_10 f3_10 f4_10 f5_10 f6_10 f7_10 f24_10
                  refine W.thenN ?_
                  refine W.seq ?_
                  refine W.drawP _ dr29_9 (fun K hK => ?_)
                  simp (config := { maxSteps := 10000000 }) only [go_sem, ↓forkQ_true, ↓forkQ_false, ↓guardQ_some, ↓resQ_val, ↓resQ_unit, ↓resQ_enter, ↓retQ_some, ↓resFQ_val, ↓resFQ_unit, ↓resFQ_enter, ↓retFQ_some, Nat.reduceEqDiff, reduceIte, Nat.reduceAdd, Nat.reduceMul, Nat.reduceSub, reduceCtorEq, Nat.reduceLeDiff, f0_12, f2_12, f3_12, f4_12, f5_12, f6_12, f7_12, f8_12, hadd, haddj, ha0, iri, irj, hb', hcs, ci0, ci1, ci2, cj0, cj1, cj2, s0, s1, s2, r1, r2, hbn, hbn', hbn1, hbn1', hf', hw]
                  refine hK _ _ _ (by simp only [go_sem, ↓forkQ_true, ↓forkQ_false, ↓guardQ_some, ↓resQ_val, ↓resQ_unit, ↓resQ_enter, ↓retQ_some, ↓resFQ_val, ↓resFQ_unit, ↓resFQ_enter, ↓retFQ_some, Nat.reduceEqDiff, reduceIte, Nat.reduceAdd, Nat.reduceMul, Nat.reduceSub, reduceCtorEq, Nat.reduceLeDiff, hbn, hbn', hbn1, hbn1']) ?_
                  clear hK K
                  refine W.forget (fun e13 he13 => ?_)
                  refine W.forgetH (fun k9 hk13 => ?_)
                  have t9 : Rw h k9 _ _ := hj.t.grow (by rw [hk13]; exact (((exj.alloc _).alloc _).set exj.next _).set (Nat.le_succ_of_le exj.next) _) (by rw [hk13]; show k2.next ≤ k2.next + 1 + 1; omega) (fun q hq => by rw [hk13, Heap.get_set_ne _ _ (by omega), Heap.get_set_ne _ _ (by omega), Heap.get_alloc_ne _ _ (by show q ≠ k2.next + 1; omega), Heap.get_alloc_ne _ _ (by omega)])
                  have g9 : k9.get k2.next = some ⟨[.int .i64 (quoN ((gt l j).lo - (gt l i).hi) ((gt l j).x - (gt l i).x)), .int .i64 (quoD ((gt l j).lo - (gt l i).hi) ((gt l j).x - (gt l i).x))], true, false, none⟩ := by rw [hk13, Heap.get_set_ne _ _ (by omega)]; exact Heap.get_set_same _ _ _
                  have g10 : k9.get (k2.next + 1) = some ⟨[.int .i64 (quoN ((gt l j).hi - (gt l i).lo) ((gt l j).x - (gt l i).x)), .int .i64 (quoD ((gt l j).hi - (gt l i).lo) ((gt l j).x - (gt l i).x))], true, false, none⟩ := by rw [hk13]; exact Heap.get_set_same _ _ _
                  have qd1 := quoD_ne (n := (gt l j).lo - (gt l i).hi) (d := (gt l j).x - (gt l i).x) (by omega)
                  have qd2 := quoD_ne (n := (gt l j).hi - (gt l i).lo) (d := (gt l j).x - (gt l i).x) (by omega)
                  have nx2 := hj.t.nx
                  clear hk13
                  have f0_13 := congrArg (fun q => Env.get q 0) he13
                  simp only [Env.put_some, Env.put_none, Env.get_set, Env.get_set, Nat.reduceEqDiff, reduceIte, if_true, if_false, eq_self, f0_12] at f0_13
                  have f2_13 := congrArg (fun q => Env.get q 2) he13
                  simp only [Env.put_some, Env.put_none, Env.get_set, Env.get_set, Nat.reduceEqDiff, reduceIte, if_true, if_false, eq_self, f2_12] at f2_13
                  have f3_13 := congrArg (fun q => Env.get q 3) he13
                  simp only [Env.put_some, Env.put_none, Env.get_set, Env.get_set, Nat.reduceEqDiff, reduceIte, if_true, if_false, eq_self, f3_12] at f3_13
                  have f4_13 := congrArg (fun q => Env.get q 4) he13
                  simp only [Env.put_some, Env.put_none, Env.get_set, Env.get_set, Nat.reduceEqDiff, reduceIte, if_true, if_false, eq_self, f4_12] at f4_13
                  have f5_13 := congrArg (fun q => Env.get q 5) he13
                  simp only [Env.put_some, Env.put_none, Env.get_set, Env.get_set, Nat.reduceEqDiff, reduceIte, if_true, if_false, eq_self, f5_12] at f5_13
                  have f6_13 := congrArg (fun q => Env.get q 6) he13
                  simp only [Env.put_some, Env.put_none, Env.get_set, Env.get_set, Nat.reduceEqDiff, reduceIte, if_true, if_false, eq_self, f6_12] at f6_13
                  have f7_13 := congrArg (fun q => Env.get q 7) he13
                  simp only [Env.put_some, Env.put_none, Env.get_set, Env.get_set, Nat.reduceEqDiff, reduceIte, if_true, if_false, eq_self, f7_12] at f7_13
                  have f9_13 := congrArg (fun q => Env.get q 9) he13
                  simp only [Env.put_some, Env.put_none, Env.get_set, Env.get_set, Nat.reduceEqDiff, reduceIte, if_true, if_false, eq_self] at f9_13
                  have f10_13 := congrArg (fun q => Env.get q 10) he13
                  simp only [Env.put_some, Env.put_none, Env.get_set, Env.get_set, Nat.reduceEqDiff, reduceIte, if_true, if_false, eq_self] at f10_13
                  clear he13 f0_12 f2_12 f3_12 f4_12 f5_12 f6_12 f7_12 f8_12
                  refine W.thenN ?_
                  refine W.seq ?_
                  refine W.seq ?_
                  refine W.region (fun K hK => ?_)
                  have gl := t9.gl
                  have q30 := c30 (lR (outr (rlP l) l.length i ++ inn (rlP l) i j)).n _ (quoN ((gt l j).lo - (gt l i).hi) ((gt l j).x - (gt l i).x)) _ t9.db qd1
                  simp (config := { maxSteps := 10000000 }) only [go_sem, ↓forkQ_true, ↓forkQ_false, ↓guardQ_some, ↓resQ_val, ↓resQ_unit, ↓resQ_enter, ↓retQ_some, ↓resFQ_val, ↓resFQ_unit, ↓resFQ_enter, ↓retFQ_some, Nat.reduceEqDiff, reduceIte, Nat.reduceAdd, Nat.reduceMul, Nat.reduceSub, reduceCtorEq, Nat.reduceLeDiff, f0_13, f2_13, f3_13, f4_13, f5_13, f6_13, f7_13, f9_13, f10_13, hadd, haddj, ha0, iri, irj, hb', hcs, ci0, ci1, ci2, cj0, cj1, cj2, s0, s1, s2, r1, r2, hbn, hbn', hbn1, hbn1', hf', hw, g9, gl, q30]
                  refine hK _ _ ?_
                  clear hK K
                  refine W.forget (fun e14 he14 => ?_)
                  have f0_14 := congrArg (fun q => Env.get q 0) he14
                  simp only [Env.put_some, Env.put_none, Env.get_set, Env.get_set, Nat.reduceEqDiff, reduceIte, if_true, if_false, eq_self, f0_13] at f0_14
                  have f2_14 := congrArg (fun q => Env.get q 2) he14
                  simp only [Env.put_some, Env.put_none, Env.get_set, Env.get_set, Nat.reduceEqDiff, reduceIte, if_true, if_false, eq_self, f2_13] at f2_14
                  have f3_14 := congrArg (fun q => Env.get q 3) he14
                  simp only [Env.put_some, Env.put_none, Env.get_set, Env.get_set, Nat.reduceEqDiff, reduceIte, if_true, if_false, eq_self, f3_13] at f3_14
                  have f4_14 := congrArg (fun q => Env.get q 4) he14
                  simp only [Env.put_some, Env.put_none, Env.get_set, Env.get_set, Nat.reduceEqDiff, reduceIte, if_true, if_false, eq_self, f4_13] at f4_14
                  have f5_14 := congrArg (fun q => Env.get q 5) he14
                  simp only [Env.put_some, Env.put_none, Env.get_set, Env.get_set, Nat.reduceEqDiff, reduceIte, if_true, if_false, eq_self, f5_13] at f5_14
                  have f6_14 := congrArg (fun q => Env.get q 6) he14
                  simp only [Env.put_some, Env.put_none, Env.get_set, Env.get_set, Nat.reduceEqDiff, reduceIte, if_true, if_false, eq_self, f6_13] at f6_14
                  have f7_14 := congrArg (fun q => Env.get q 7) he14
                  simp only [Env.put_some, Env.put_none, Env.get_set, Env.get_set, Nat.reduceEqDiff, reduceIte, if_true, if_false, eq_self, f7_13] at f7_14
                  have f9_14 := congrArg (fun q => Env.get q 9) he14
                  simp only [Env.put_some, Env.put_none, Env.get_set, Env.get_set, Nat.reduceEqDiff, reduceIte, if_true, if_false, eq_self, f9_13] at f9_14
                  have f10_14 := congrArg (fun q => Env.get q 10) he14
                  simp only [Env.put_some, Env.put_none, Env.get_set, Env.get_set, Nat.reduceEqDiff, reduceIte, if_true, if_false, eq_self, f10_13] at f10_14
                  have f66_14 := congrArg (fun q => Env.get q 66) he14
                  simp only [Env.put_some, Env.put_none, Env.get_set, Env.get_set, Nat.reduceEqDiff, reduceIte, if_true, if_false, eq_self] at f66_14
                  clear he14 f0_13 f2_13 f3_13 f4_13 f5_13 f6_13 f7_13 f9_13 f10_13
                  refine W.thenN ?_
                  refine W.cond f66_14 (fun hc15 => ?_) (fun hc15 => ?_)
                  · first
                    | (cases hc15; done)
                    | (exfalso; simp only [decide_eq_true_eq, decide_eq_false_iff_not, Bool.not_eq_true', Bool.not_eq_false', Bool.not_eq_eq_eq_not, Bool.not_true, Bool.not_false] at hc15; omega)
                    | (skip
                       try simp only [decide_eq_true_eq, decide_eq_false_iff_not, Bool.not_eq_true', Bool.not_eq_false', Bool.not_eq_eq_eq_not, Bool.not_true, Bool.not_false] at hc15
                       refine W.region (fun K hK => ?_)
                       simp (config := { maxSteps := 10000000 }) only [go_sem, ↓forkQ_true, ↓forkQ_false, ↓guardQ_some, ↓resQ_val, ↓resQ_unit, ↓resQ_enter, ↓retQ_some, ↓resFQ_val, ↓resFQ_unit, ↓resFQ_enter, ↓retFQ_some, Nat.reduceEqDiff, reduceIte, Nat.reduceAdd, Nat.reduceMul, Nat.reduceSub, reduceCtorEq, Nat.reduceLeDiff, f0_14, f2_14, f3_14, f4_14, f5_14, f6_14, f7_14, f9_14, f10_14, f66_14, hadd, haddj, ha0, iri, irj, hb', hcs, ci0, ci1, ci2, cj0, cj1, cj2, s0, s1, s2, r1, r2, hbn, hbn', hbn1, hbn1', hf', hw, g9, gl, q30, g9, gl]
                       refine hK _ _ ?_
                       clear hK K
                       refine W.forget (fun e16 he16 => ?_)
                       refine W.forgetH (fun k11 hk16 => ?_)
                       have t9 := t9.least (n := (gt l j).lo - (gt l i).hi) (d := (gt l j).x - (gt l i).x) (by omega) ‹lessZ _ _ (quoN ((gt l j).lo - (gt l i).hi) ((gt l j).x - (gt l i).x)) (quoD ((gt l j).lo - (gt l i).hi) ((gt l j).x - (gt l i).x)) = true›
                       rw [← hk16] at t9
                       have g10 : k11.get (k2.next + 1) = some ⟨[.int .i64 (quoN ((gt l j).hi - (gt l i).lo) ((gt l j).x - (gt l i).x)), .int .i64 (quoD ((gt l j).hi - (gt l i).lo) ((gt l j).x - (gt l i).x))], true, false, none⟩ := by rw [hk16, Heap.get_set_ne _ _ (by omega)]; exact g10
                       clear hk16
                       have f0_16 := congrArg (fun q => Env.get q 0) he16
                       simp only [Env.put_some, Env.put_none, Env.get_set, Env.get_set, Nat.reduceEqDiff, reduceIte, if_true, if_false, eq_self, f0_14] at f0_16
                       have f2_16 := congrArg (fun q => Env.get q 2) he16
                       simp only [Env.put_some, Env.put_none, Env.get_set, Env.get_set, Nat.reduceEqDiff, reduceIte, if_true, if_false, eq_self, f2_14] at f2_16
                       have f3_16 := congrArg (fun q => Env.get q 3) he16
                       simp only [Env.put_some, Env.put_none, Env.get_set, Env.get_set, Nat.reduceEqDiff, reduceIte, if_true, if_false, eq_self, f3_14] at f3_16
                       have f4_16 := congrArg (fun q => Env.get q 4) he16
                       simp only [Env.put_some, Env.put_none, Env.get_set, Env.get_set, Nat.reduceEqDiff, reduceIte, if_true, if_false, eq_self, f4_14] at f4_16
                       have f5_16 := congrArg (fun q => Env.get q 5) he16
                       simp only [Env.put_some, Env.put_none, Env.get_set, Env.get_set, Nat.reduceEqDiff, reduceIte, if_true, if_false, eq_self, f5_14] at f5_16
                       have f6_16 := congrArg (fun q => Env.get q 6) he16
                       simp only [Env.put_some, Env.put_none, Env.get_set, Env.get_set, Nat.reduceEqDiff, reduceIte, if_true, if_false, eq_self, f6_14] at f6_16
                       have f7_16 := congrArg (fun q => Env.get q 7) he16
                       simp only [Env.put_some, Env.put_none, Env.get_set, Env.get_set, Nat.reduceEqDiff, reduceIte, if_true, if_false, eq_self, f7_14] at f7_16
                       have f10_16 := congrArg (fun q => Env.get q 10) he16
                       simp only [Env.put_some, Env.put_none, Env.get_set, Env.get_set, Nat.reduceEqDiff, reduceIte, if_true, if_false, eq_self, f10_14] at f10_16
                       clear he16 f0_14 f2_14 f3_14 f4_14 f5_14 f6_14 f7_14 f9_14 f10_14 f66_14
                       refine W.thenN ?_
                       refine W.seq ?_
                       refine W.region (fun K hK => ?_)
                       have gg := t9.gg
                       have q30 := c30 (quoN ((gt l j).hi - (gt l i).lo) ((gt l j).x - (gt l i).x)) _ (gR (outr (rgP l) l.length i ++ inn (rgP l) i j)).n _ qd2 t9.dg
                       simp (config := { maxSteps := 10000000 }) only [go_sem, ↓forkQ_true, ↓forkQ_false, ↓guardQ_some, ↓resQ_val, ↓resQ_unit, ↓resQ_enter, ↓retQ_some, ↓resFQ_val, ↓resFQ_unit, ↓resFQ_enter, ↓retFQ_some, Nat.reduceEqDiff, reduceIte, Nat.reduceAdd, Nat.reduceMul, Nat.reduceSub, reduceCtorEq, Nat.reduceLeDiff, f0_16, f2_16, f3_16, f4_16, f5_16, f6_16, f7_16, f10_16, hadd, haddj, ha0, iri, irj, hb', hcs, ci0, ci1, ci2, cj0, cj1, cj2, s0, s1, s2, r1, r2, hbn, hbn', hbn1, hbn1', hf', hw, g9, gl, q30, g9, gl, g10, gg, q30]
                       refine hK _ _ ?_
                       clear hK K
                       refine W.forget (fun e17 he17 => ?_)
                       have f0_17 := congrArg (fun q => Env.get q 0) he17
                       simp only [Env.put_some, Env.put_none, Env.get_set, Env.get_set, Nat.reduceEqDiff, reduceIte, if_true, if_false, eq_self, f0_16] at f0_17
                       have f2_17 := congrArg (fun q => Env.get q 2) he17
                       simp only [Env.put_some, Env.put_none, Env.get_set, Env.get_set, Nat.reduceEqDiff, reduceIte, if_true, if_false, eq_self, f2_16] at f2_17
                       have f3_17 := congrArg (fun q => Env.get q 3) he17
                       simp only [Env.put_some, Env.put_none, Env.get_set, Env.get_set, Nat.reduceEqDiff, reduceIte, if_true, if_false, eq_self, f3_16] at f3_17
                       have f4_17 := congrArg (fun q => Env.get q 4) he17
                       simp only [Env.put_some, Env.put_none, Env.get_set, Env.get_set, Nat.reduceEqDiff, reduceIte, if_true, if_false, eq_self, f4_16] at f4_17
                       have f5_17 := congrArg (fun q => Env.get q 5) he17
                       simp only [Env.put_some, Env.put_none, Env.get_set, Env.get_set, Nat.reduceEqDiff, reduceIte, if_true, if_false, eq_self, f5_16] at f5_17
                       have f6_17 := congrArg (fun q => Env.get q 6) he17
                       simp only [Env.put_some, Env.put_none, Env.get_set, Env.get_set, Nat.reduceEqDiff, reduceIte, if_true, if_false, eq_self, f6_16] at f6_17
                       have f7_17 := congrArg (fun q => Env.get q 7) he17
                       simp only [Env.put_some, Env.put_none, Env.get_set, Env.get_set, Nat.reduceEqDiff, reduceIte, if_true, if_false, eq_self, f7_16] at f7_17
                       have f10_17 := congrArg (fun q => Env.get q 10) he17
                       simp only [Env.put_some, Env.put_none, Env.get_set, Env.get_set, Nat.reduceEqDiff, reduceIte, if_true, if_false, eq_self, f10_16] at f10_17
                       have f70_17 := congrArg (fun q => Env.get q 70) he17
                       simp only [Env.put_some, Env.put_none, Env.get_set, Env.get_set, Nat.reduceEqDiff, reduceIte, if_true, if_false, eq_self] at f70_17
                       clear he17 f0_16 f2_16 f3_16 f4_16 f5_16 f6_16 f7_16 f10_16
                       refine W.thenN ?_
                       refine W.cond f70_17 (fun hc18 => ?_) (fun hc18 => ?_)
                       · first
                         | (cases hc18; done)
                         | (exfalso; simp only [decide_eq_true_eq, decide_eq_false_iff_not, Bool.not_eq_true', Bool.not_eq_false', Bool.not_eq_eq_eq_not, Bool.not_true, Bool.not_false] at hc18; omega)
                         | (skip
                            try simp only [decide_eq_true_eq, decide_eq_false_iff_not, Bool.not_eq_true', Bool.not_eq_false', Bool.not_eq_eq_eq_not, Bool.not_true, Bool.not_false] at hc18
                            refine W.region (fun K hK => ?_)
                            simp (config := { maxSteps := 10000000 }) only [go_sem, ↓forkQ_true, ↓forkQ_false, ↓guardQ_some, ↓resQ_val, ↓resQ_unit, ↓resQ_enter, ↓retQ_some, ↓resFQ_val, ↓resFQ_unit, ↓resFQ_enter, ↓retFQ_some, Nat.reduceEqDiff, reduceIte, Nat.reduceAdd, Nat.reduceMul, Nat.reduceSub, reduceCtorEq, Nat.reduceLeDiff, f0_17, f2_17, f3_17, f4_17, f5_17, f6_17, f7_17, f10_17, f70_17, hadd, haddj, ha0, iri, irj, hb', hcs, ci0, ci1, ci2, cj0, cj1, cj2, s0, s1, s2, r1, r2, hbn, hbn', hbn1, hbn1', hf', hw, g9, gl, q30, g9, gl, g10, gg, q30, g10, gg]
                            refine hK _ _ ?_
                            clear hK K
                            refine W.forget (fun e19 he19 => ?_)
                            refine W.forgetH (fun k13 hk19 => ?_)
                            have t9 := t9.most (n := (gt l j).hi - (gt l i).lo) (d := (gt l j).x - (gt l i).x) (by omega) ‹lessZ (quoN ((gt l j).hi - (gt l i).lo) ((gt l j).x - (gt l i).x)) (quoD ((gt l j).hi - (gt l i).lo) ((gt l j).x - (gt l i).x)) _ _ = true›
                            rw [← hk19] at t9
                            clear hk19
                            have f0_19 := congrArg (fun q => Env.get q 0) he19
                            simp only [Env.put_some, Env.put_none, Env.get_set, Env.get_set, Nat.reduceEqDiff, reduceIte, if_true, if_false, eq_self, f0_17] at f0_19
                            have f2_19 := congrArg (fun q => Env.get q 2) he19
                            simp only [Env.put_some, Env.put_none, Env.get_set, Env.get_set, Nat.reduceEqDiff, reduceIte, if_true, if_false, eq_self, f2_17] at f2_19
                            have f3_19 := congrArg (fun q => Env.get q 3) he19
                            simp only [Env.put_some, Env.put_none, Env.get_set, Env.get_set, Nat.reduceEqDiff, reduceIte, if_true, if_false, eq_self, f3_17] at f3_19
                            have f4_19 := congrArg (fun q => Env.get q 4) he19
                            simp only [Env.put_some, Env.put_none, Env.get_set, Env.get_set, Nat.reduceEqDiff, reduceIte, if_true, if_false, eq_self, f4_17] at f4_19
                            have f5_19 := congrArg (fun q => Env.get q 5) he19
                            simp only [Env.put_some, Env.put_none, Env.get_set, Env.get_set, Nat.reduceEqDiff, reduceIte, if_true, if_false, eq_self, f5_17] at f5_19
                            have f6_19 := congrArg (fun q => Env.get q 6) he19
                            simp only [Env.put_some, Env.put_none, Env.get_set, Env.get_set, Nat.reduceEqDiff, reduceIte, if_true, if_false, eq_self, f6_17] at f6_19
                            have f7_19 := congrArg (fun q => Env.get q 7) he19
                            simp only [Env.put_some, Env.put_none, Env.get_set, Env.get_set, Nat.reduceEqDiff, reduceIte, if_true, if_false, eq_self, f7_17] at f7_19
                            clear he19 f0_17 f2_17 f3_17 f4_17 f5_17 f6_17 f7_17 f10_17 f70_17
                            refine W.blockN ?_
                            refine W.thenN ?_
                            refine W.region (fun K hK => ?_)
                            simp (config := { maxSteps := 10000000 }) only [go_sem, ↓forkQ_true, ↓forkQ_false, ↓guardQ_some, ↓resQ_val, ↓resQ_unit, ↓resQ_enter, ↓retQ_some, ↓resFQ_val, ↓resFQ_unit, ↓resFQ_enter, ↓retFQ_some, Nat.reduceEqDiff, reduceIte, Nat.reduceAdd, Nat.reduceMul, Nat.reduceSub, reduceCtorEq, Nat.reduceLeDiff, f0_19, f2_19, f3_19, f4_19, f5_19, f6_19, f7_19, hadd, haddj, ha0, iri, irj, hb', hcs, ci0, ci1, ci2, cj0, cj1, cj2, s0, s1, s2, r1, r2, hbn, hbn', hbn1, hbn1', hf', hw, g9, gl, q30, g9, gl, g10, gg, q30, g10, gg]
                            refine hK _ _ ?_
                            clear hK K
                            refine W.forget (fun e20 he20 => ?_)
                            have f0_20 := congrArg (fun q => Env.get q 0) he20
                            simp only [Env.put_some, Env.put_none, Env.get_set, Env.get_set, Nat.reduceEqDiff, reduceIte, if_true, if_false, eq_self, f0_19] at f0_20
                            have f2_20 := congrArg (fun q => Env.get q 2) he20
                            simp only [Env.put_some, Env.put_none, Env.get_set, Env.get_set, Nat.reduceEqDiff, reduceIte, if_true, if_false, eq_self, f2_19] at f2_20
                            have f3_20 := congrArg (fun q => Env.get q 3) he20
                            simp only [Env.put_some, Env.put_none, Env.get_set, Env.get_set, Nat.reduceEqDiff, reduceIte, if_true, if_false, eq_self, f3_19] at f3_20
                            have f4_20 := congrArg (fun q => Env.get q 4) he20
                            simp only [Env.put_some, Env.put_none, Env.get_set, Env.get_set, Nat.reduceEqDiff, reduceIte, if_true, if_false, eq_self, f4_19] at f4_20
                            have f5_20 := congrArg (fun q => Env.get q 5) he20
                            simp only [Env.put_some, Env.put_none, Env.get_set, Env.get_set, Nat.reduceEqDiff, reduceIte, if_true, if_false, eq_self, f5_19] at f5_20
                            have f6_20 := congrArg (fun q => Env.get q 6) he20
                            simp only [Env.put_some, Env.put_none, Env.get_set, Env.get_set, Nat.reduceEqDiff, reduceIte, if_true, if_false, eq_self, f6_19] at f6_20
                            have f7_20 := congrArg (fun q => Env.get q 7) he20
                            simp only [Env.put_some, Env.put_none, Env.get_set, Env.get_set, Nat.reduceEqDiff, reduceIte, if_true, if_false, eq_self, f7_19] at f7_20
                            clear he20 f0_19 f2_19 f3_19 f4_19 f5_19 f6_19 f7_19
                            refine W.thenN ?_
                            exact ⟨j + 1, by dsimp only; omega, by rw [inn_step _ hltj, inn_step _ hltj, ← List.append_assoc, ← List.append_assoc, lR_one, gR_one]; exact t9, f0_20, f2_20, f3_20, f4_20, f5_20, f6_20, f7_20, by omega, by omega⟩)
                       · first
                         | (cases hc18; done)
                         | (exfalso; simp only [decide_eq_true_eq, decide_eq_false_iff_not, Bool.not_eq_true', Bool.not_eq_false', Bool.not_eq_eq_eq_not, Bool.not_true, Bool.not_false] at hc18; omega)
                         | (skip
                            try simp only [decide_eq_true_eq, decide_eq_false_iff_not, Bool.not_eq_true', Bool.not_eq_false', Bool.not_eq_eq_eq_not, Bool.not_true, Bool.not_false] at hc18
                            replace t9 := t9.most' (n := (gt l j).hi - (gt l i).lo) (d := (gt l j).x - (gt l i).x) ‹_›
                            refine W.skip ?_
                            refine W.blockN ?_
                            refine W.thenN ?_
                            refine W.region (fun K hK => ?_)
                            simp (config := { maxSteps := 10000000 }) only [go_sem, ↓forkQ_true, ↓forkQ_false, ↓guardQ_some, ↓resQ_val, ↓resQ_unit, ↓resQ_enter, ↓retQ_some, ↓resFQ_val, ↓resFQ_unit, ↓resFQ_enter, ↓retFQ_some, Nat.reduceEqDiff, reduceIte, Nat.reduceAdd, Nat.reduceMul, Nat.reduceSub, reduceCtorEq, Nat.reduceLeDiff, f0_17, f2_17, f3_17, f4_17, f5_17, f6_17, f7_17, f10_17, f70_17, hadd, haddj, ha0, iri, irj, hb', hcs, ci0, ci1, ci2, cj0, cj1, cj2, s0, s1, s2, r1, r2, hbn, hbn', hbn1, hbn1', hf', hw, g9, gl, q30, g9, gl, g10, gg, q30]
                            refine hK _ _ ?_
                            clear hK K
                            refine W.forget (fun e21 he21 => ?_)
                            have f0_21 := congrArg (fun q => Env.get q 0) he21
                            simp only [Env.put_some, Env.put_none, Env.get_set, Env.get_set, Nat.reduceEqDiff, reduceIte, if_true, if_false, eq_self, f0_17] at f0_21
                            have f2_21 := congrArg (fun q => Env.get q 2) he21
                            simp only [Env.put_some, Env.put_none, Env.get_set, Env.get_set, Nat.reduceEqDiff, reduceIte, if_true, if_false, eq_self, f2_17] at f2_21
                            have f3_21 := congrArg (fun q => Env.get q 3) he21
                            simp only [Env.put_some, Env.put_none, Env.get_set, Env.get_set, Nat.reduceEqDiff, reduceIte, if_true, if_false, eq_self, f3_17] at f3_21
                            have f4_21 := congrArg (fun q => Env.get q 4) he21
                            simp only [Env.put_some, Env.put_none, Env.get_set, Env.get_set, Nat.reduceEqDiff, reduceIte, if_true, if_false, eq_self, f4_17] at f4_21
                            have f5_21 := congrArg (fun q => Env.get q 5) he21
                            simp only [Env.put_some, Env.put_none, Env.get_set, Env.get_set, Nat.reduceEqDiff, reduceIte, if_true, if_false, eq_self, f5_17] at f5_21
                            have f6_21 := congrArg (fun q => Env.get q 6) he21
                            simp only [Env.put_some, Env.put_none, Env.get_set, Env.get_set, Nat.reduceEqDiff, reduceIte, if_true, if_false, eq_self, f6_17] at f6_21
                            have f7_21 := congrArg (fun q => Env.get q 7) he21
                            simp only [Env.put_some, Env.put_none, Env.get_set, Env.get_set, Nat.reduceEqDiff, reduceIte, if_true, if_false, eq_self, f7_17] at f7_21
                            clear he21 f0_17 f2_17 f3_17 f4_17 f5_17 f6_17 f7_17 f10_17 f70_17
                            refine W.thenN ?_
                            exact ⟨j + 1, by dsimp only; omega, by rw [inn_step _ hltj, inn_step _ hltj, ← List.append_assoc, ← List.append_assoc, lR_one, gR_one]; exact t9, f0_21, f2_21, f3_21, f4_21, f5_21, f6_21, f7_21, by omega, by omega⟩))
                  · first
                    | (cases hc15; done)
                    | (exfalso; simp only [decide_eq_true_eq, decide_eq_false_iff_not, Bool.not_eq_true', Bool.not_eq_false', Bool.not_eq_eq_eq_not, Bool.not_true, Bool.not_false] at hc15; omega)
                    | (skip
                       try simp only [decide_eq_true_eq, decide_eq_false_iff_not, Bool.not_eq_true', Bool.not_eq_false', Bool.not_eq_eq_eq_not, Bool.not_true, Bool.not_false] at hc15
                       replace t9 := t9.least' (n := (gt l j).lo - (gt l i).hi) (d := (gt l j).x - (gt l i).x) ‹_›
                       refine W.skip ?_
                       refine W.thenN ?_
                       refine W.seq ?_
                       refine W.region (fun K hK => ?_)
                       have gg := t9.gg
                       have q30 := c30 (quoN ((gt l j).hi - (gt l i).lo) ((gt l j).x - (gt l i).x)) _ (gR (outr (rgP l) l.length i ++ inn (rgP l) i j)).n _ qd2 t9.dg
                       simp (config := { maxSteps := 10000000 }) only [go_sem, ↓forkQ_true, ↓forkQ_false, ↓guardQ_some, ↓resQ_val, ↓resQ_unit, ↓resQ_enter, ↓retQ_some, ↓resFQ_val, ↓resFQ_unit, ↓resFQ_enter, ↓retFQ_some, Nat.reduceEqDiff, reduceIte, Nat.reduceAdd, Nat.reduceMul, Nat.reduceSub, reduceCtorEq, Nat.reduceLeDiff, f0_14, f2_14, f3_14, f4_14, f5_14, f6_14, f7_14, f9_14, f10_14, f66_14, hadd, haddj, ha0, iri, irj, hb', hcs, ci0, ci1, ci2, cj0, cj1, cj2, s0, s1, s2, r1, r2, hbn, hbn', hbn1, hbn1', hf', hw, g9, gl, q30, g10, gg, q30]
                       refine hK _ _ ?_
                       clear hK K
                       refine W.forget (fun e22 he22 => ?_)
                       have f0_22 := congrArg (fun q => Env.get q 0) he22
                       simp only [Env.put_some, Env.put_none, Env.get_set, Env.get_set, Nat.reduceEqDiff, reduceIte, if_true, if_false, eq_self, f0_14] at f0_22
                       have f2_22 := congrArg (fun q => Env.get q 2) he22
                       simp only [Env.put_some, Env.put_none, Env.get_set, Env.get_set, Nat.reduceEqDiff, reduceIte, if_true, if_false, eq_self, f2_14] at f2_22
                       have f3_22 := congrArg (fun q => Env.get q 3) he22
                       simp only [Env.put_some, Env.put_none, Env.get_set, Env.get_set, Nat.reduceEqDiff, reduceIte, if_true, if_false, eq_self, f3_14] at f3_22
                       have f4_22 := congrArg (fun q => Env.get q 4) he22
                       simp only [Env.put_some, Env.put_none, Env.get_set, Env.get_set, Nat.reduceEqDiff, reduceIte, if_true, if_false, eq_self, f4_14] at f4_22
                       have f5_22 := congrArg (fun q => Env.get q 5) he22
                       simp only [Env.put_some, Env.put_none, Env.get_set, Env.get_set, Nat.reduceEqDiff, reduceIte, if_true, if_false, eq_self, f5_14] at f5_22
                       have f6_22 := congrArg (fun q => Env.get q 6) he22
                       simp only [Env.put_some, Env.put_none, Env.get_set, Env.get_set, Nat.reduceEqDiff, reduceIte, if_true, if_false, eq_self, f6_14] at f6_22
                       have f7_22 := congrArg (fun q => Env.get q 7) he22
                       simp only [Env.put_some, Env.put_none, Env.get_set, Env.get_set, Nat.reduceEqDiff, reduceIte, if_true, if_false, eq_self, f7_14] at f7_22
                       have f10_22 := congrArg (fun q => Env.get q 10) he22
                       simp only [Env.put_some, Env.put_none, Env.get_set, Env.get_set, Nat.reduceEqDiff, reduceIte, if_true, if_false, eq_self, f10_14] at f10_22
                       have f70_22 := congrArg (fun q => Env.get q 70) he22
                       simp only [Env.put_some, Env.put_none, Env.get_set, Env.get_set, Nat.reduceEqDiff, reduceIte, if_true, if_false, eq_self] at f70_22
                       clear he22 f0_14 f2_14 f3_14 f4_14 f5_14 f6_14 f7_14 f9_14 f10_14 f66_14
                       refine W.thenN ?_
                       refine W.cond f70_22 (fun hc23 => ?_) (fun hc23 => ?_)
                       · first
                         | (cases hc23; done)
                         | (exfalso; simp only [decide_eq_true_eq, decide_eq_false_iff_not, Bool.not_eq_true', Bool.not_eq_false', Bool.not_eq_eq_eq_not, Bool.not_true, Bool.not_false] at hc23; omega)
                         | (skip
                            try simp only [decide_eq_true_eq, decide_eq_false_iff_not, Bool.not_eq_true', Bool.not_eq_false', Bool.not_eq_eq_eq_not, Bool.not_true, Bool.not_false] at hc23
                            refine W.region (fun K hK => ?_)
                            simp (config := { maxSteps := 10000000 }) only [go_sem, ↓forkQ_true, ↓forkQ_false, ↓guardQ_some, ↓resQ_val, ↓resQ_unit, ↓resQ_enter, ↓retQ_some, ↓resFQ_val, ↓resFQ_unit, ↓resFQ_enter, ↓retFQ_some, Nat.reduceEqDiff, reduceIte, Nat.reduceAdd, Nat.reduceMul, Nat.reduceSub, reduceCtorEq, Nat.reduceLeDiff, f0_22, f2_22, f3_22, f4_22, f5_22, f6_22, f7_22, f10_22, f70_22, hadd, haddj, ha0, iri, irj, hb', hcs, ci0, ci1, ci2, cj0, cj1, cj2, s0, s1, s2, r1, r2, hbn, hbn', hbn1, hbn1', hf', hw, g9, gl, q30, g10, gg, q30, g10, gg]
                            refine hK _ _ ?_
                            clear hK K
                            refine W.forget (fun e24 he24 => ?_)
                            refine W.forgetH (fun k13 hk24 => ?_)
                            have t9 := t9.most (n := (gt l j).hi - (gt l i).lo) (d := (gt l j).x - (gt l i).x) (by omega) ‹lessZ (quoN ((gt l j).hi - (gt l i).lo) ((gt l j).x - (gt l i).x)) (quoD ((gt l j).hi - (gt l i).lo) ((gt l j).x - (gt l i).x)) _ _ = true›
                            rw [← hk24] at t9
                            clear hk24
                            have f0_24 := congrArg (fun q => Env.get q 0) he24
                            simp only [Env.put_some, Env.put_none, Env.get_set, Env.get_set, Nat.reduceEqDiff, reduceIte, if_true, if_false, eq_self, f0_22] at f0_24
                            have f2_24 := congrArg (fun q => Env.get q 2) he24
                            simp only [Env.put_some, Env.put_none, Env.get_set, Env.get_set, Nat.reduceEqDiff, reduceIte, if_true, if_false, eq_self, f2_22] at f2_24
                            have f3_24 := congrArg (fun q => Env.get q 3) he24
                            simp only [Env.put_some, Env.put_none, Env.get_set, Env.get_set, Nat.reduceEqDiff, reduceIte, if_true, if_false, eq_self, f3_22] at f3_24
                            have f4_24 := congrArg (fun q => Env.get q 4) he24
                            simp only [Env.put_some, Env.put_none, Env.get_set, Env.get_set, Nat.reduceEqDiff, reduceIte, if_true, if_false, eq_self, f4_22] at f4_24
                            have f5_24 := congrArg (fun q => Env.get q 5) he24
                            simp only [Env.put_some, Env.put_none, Env.get_set, Env.get_set, Nat.reduceEqDiff, reduceIte, if_true, if_false, eq_self, f5_22] at f5_24
                            have f6_24 := congrArg (fun q => Env.get q 6) he24
                            simp only [Env.put_some, Env.put_none, Env.get_set, Env.get_set, Nat.reduceEqDiff, reduceIte, if_true, if_false, eq_self, f6_22] at f6_24
                            have f7_24 := congrArg (fun q => Env.get q 7) he24
                            simp only [Env.put_some, Env.put_none, Env.get_set, Env.get_set, Nat.reduceEqDiff, reduceIte, if_true, if_false, eq_self, f7_22] at f7_24
                            clear he24 f0_22 f2_22 f3_22 f4_22 f5_22 f6_22 f7_22 f10_22 f70_22
                            refine W.blockN ?_
                            refine W.thenN ?_
                            refine W.region (fun K hK => ?_)
                            simp (config := { maxSteps := 10000000 }) only [go_sem, ↓forkQ_true, ↓forkQ_false, ↓guardQ_some, ↓resQ_val, ↓resQ_unit, ↓resQ_enter, ↓retQ_some, ↓resFQ_val, ↓resFQ_unit, ↓resFQ_enter, ↓retFQ_some, Nat.reduceEqDiff, reduceIte, Nat.reduceAdd, Nat.reduceMul, Nat.reduceSub, reduceCtorEq, Nat.reduceLeDiff, f0_24, f2_24, f3_24, f4_24, f5_24, f6_24, f7_24, hadd, haddj, ha0, iri, irj, hb', hcs, ci0, ci1, ci2, cj0, cj1, cj2, s0, s1, s2, r1, r2, hbn, hbn', hbn1, hbn1', hf', hw, g9, gl, q30, g10, gg, q30, g10, gg]
                            refine hK _ _ ?_
                            clear hK K
                            refine W.forget (fun e25 he25 => ?_)
                            have f0_25 := congrArg (fun q => Env.get q 0) he25
                            simp only [Env.put_some, Env.put_none, Env.get_set, Env.get_set, Nat.reduceEqDiff, reduceIte, if_true, if_false, eq_self, f0_24] at f0_25
                            have f2_25 := congrArg (fun q => Env.get q 2) he25
                            simp only [Env.put_some, Env.put_none, Env.get_set, Env.get_set, Nat.reduceEqDiff, reduceIte, if_true, if_false, eq_self, f2_24] at f2_25
                            have f3_25 := congrArg (fun q => Env.get q 3) he25
                            simp only [Env.put_some, Env.put_none, Env.get_set, Env.get_set, Nat.reduceEqDiff, reduceIte, if_true, if_false, eq_self, f3_24] at f3_25
                            have f4_25 := congrArg (fun q => Env.get q 4) he25
                            simp only [Env.put_some, Env.put_none, Env.get_set, Env.get_set, Nat.reduceEqDiff, reduceIte, if_true, if_false, eq_self, f4_24] at f4_25
                            have f5_25 := congrArg (fun q => Env.get q 5) he25
                            simp only [Env.put_some, Env.put_none, Env.get_set, Env.get_set, Nat.reduceEqDiff, reduceIte, if_true, if_false, eq_self, f5_24] at f5_25
                            have f6_25 := congrArg (fun q => Env.get q 6) he25
                            simp only [Env.put_some, Env.put_none, Env.get_set, Env.get_set, Nat.reduceEqDiff, reduceIte, if_true, if_false, eq_self, f6_24] at f6_25
                            have f7_25 := congrArg (fun q => Env.get q 7) he25
                            simp only [Env.put_some, Env.put_none, Env.get_set, Env.get_set, Nat.reduceEqDiff, reduceIte, if_true, if_false, eq_self, f7_24] at f7_25
                            clear he25 f0_24 f2_24 f3_24 f4_24 f5_24 f6_24 f7_24
                            refine W.thenN ?_
                            exact ⟨j + 1, by dsimp only; omega, by rw [inn_step _ hltj, inn_step _ hltj, ← List.append_assoc, ← List.append_assoc, lR_one, gR_one]; exact t9, f0_25, f2_25, f3_25, f4_25, f5_25, f6_25, f7_25, by omega, by omega⟩)
                       · first
                         | (cases hc23; done)
                         | (exfalso; simp only [decide_eq_true_eq, decide_eq_false_iff_not, Bool.not_eq_true', Bool.not_eq_false', Bool.not_eq_eq_eq_not, Bool.not_true, Bool.not_false] at hc23; omega)
                         | (skip
                            try simp only [decide_eq_true_eq, decide_eq_false_iff_not, Bool.not_eq_true', Bool.not_eq_false', Bool.not_eq_eq_eq_not, Bool.not_true, Bool.not_false] at hc23
                            replace t9 := t9.most' (n := (gt l j).hi - (gt l i).lo) (d := (gt l j).x - (gt l i).x) ‹_›
                            refine W.skip ?_
                            refine W.blockN ?_
                            refine W.thenN ?_
                            refine W.region (fun K hK => ?_)
                            simp (config := { maxSteps := 10000000 }) only [go_sem, ↓forkQ_true, ↓forkQ_false, ↓guardQ_some, ↓resQ_val, ↓resQ_unit, ↓resQ_enter, ↓retQ_some, ↓resFQ_val, ↓resFQ_unit, ↓resFQ_enter, ↓retFQ_some, Nat.reduceEqDiff, reduceIte, Nat.reduceAdd, Nat.reduceMul, Nat.reduceSub, reduceCtorEq, Nat.reduceLeDiff, f0_22, f2_22, f3_22, f4_22, f5_22, f6_22, f7_22, f10_22, f70_22, hadd, haddj, ha0, iri, irj, hb', hcs, ci0, ci1, ci2, cj0, cj1, cj2, s0, s1, s2, r1, r2, hbn, hbn', hbn1, hbn1', hf', hw, g9, gl, q30, g10, gg, q30]
                            refine hK _ _ ?_
                            clear hK K
                            refine W.forget (fun e26 he26 => ?_)
                            have f0_26 := congrArg (fun q => Env.get q 0) he26
                            simp only [Env.put_some, Env.put_none, Env.get_set, Env.get_set, Nat.reduceEqDiff, reduceIte, if_true, if_false, eq_self, f0_22] at f0_26
                            have f2_26 := congrArg (fun q => Env.get q 2) he26
                            simp only [Env.put_some, Env.put_none, Env.get_set, Env.get_set, Nat.reduceEqDiff, reduceIte, if_true, if_false, eq_self, f2_22] at f2_26
                            have f3_26 := congrArg (fun q => Env.get q 3) he26
                            simp only [Env.put_some, Env.put_none, Env.get_set, Env.get_set, Nat.reduceEqDiff, reduceIte, if_true, if_false, eq_self, f3_22] at f3_26
                            have f4_26 := congrArg (fun q => Env.get q 4) he26
                            simp only [Env.put_some, Env.put_none, Env.get_set, Env.get_set, Nat.reduceEqDiff, reduceIte, if_true, if_false, eq_self, f4_22] at f4_26
                            have f5_26 := congrArg (fun q => Env.get q 5) he26
                            simp only [Env.put_some, Env.put_none, Env.get_set, Env.get_set, Nat.reduceEqDiff, reduceIte, if_true, if_false, eq_self, f5_22] at f5_26
                            have f6_26 := congrArg (fun q => Env.get q 6) he26
                            simp only [Env.put_some, Env.put_none, Env.get_set, Env.get_set, Nat.reduceEqDiff, reduceIte, if_true, if_false, eq_self, f6_22] at f6_26
                            have f7_26 := congrArg (fun q => Env.get q 7) he26
                            simp only [Env.put_some, Env.put_none, Env.get_set, Env.get_set, Nat.reduceEqDiff, reduceIte, if_true, if_false, eq_self, f7_22] at f7_26
                            clear he26 f0_22 f2_22 f3_22 f4_22 f5_22 f6_22 f7_22 f10_22 f70_22
                            refine W.thenN ?_
                            exact ⟨j + 1, by dsimp only; omega, by rw [inn_step _ hltj, inn_step _ hltj, ← List.append_assoc, ← List.append_assoc, lR_one, gR_one]; exact t9, f0_26, f2_26, f3_26, f4_26, f5_26, f6_26, f7_26, by omega, by omega⟩)))
             · first
               | (cases hc11; done)
               | (exfalso; simp only [decide_eq_true_eq, decide_eq_false_iff_not, Bool.not_eq_true', Bool.not_eq_false', Bool.not_eq_eq_eq_not, Bool.not_true, Bool.not_false] at hc11; omega)
               | (skip
                  try simp only [decide_eq_true_eq, decide_eq_false_iff_not, Bool.not_eq_true', Bool.not_eq_false', Bool.not_eq_eq_eq_not, Bool.not_true, Bool.not_false] at hc11
                  refine W.exit ?_
                  refine W.thenE ?_
                  refine W.thenE ?_
                  refine W.blockE ?_
                  refine W.blockN ?_
                  refine W.thenN ?_
                  refine W.region (fun K hK => ?_)
                  simp (config := { maxSteps := 10000000 }) only [go_sem, ↓forkQ_true, ↓forkQ_false, ↓guardQ_some, ↓resQ_val, ↓resQ_unit, ↓resQ_enter, ↓retQ_some, ↓resFQ_val, ↓resFQ_unit, ↓resFQ_enter, ↓retFQ_some, Nat.reduceEqDiff, reduceIte, Nat.reduceAdd, Nat.reduceMul, Nat.reduceSub, reduceCtorEq, Nat.reduceLeDiff, f0_10, f2_10, f3_10, f4_10, f5_10, f6_10, f7_10, f24_10, hadd]
                  refine hK _ _ ?_
                  clear hK K
                  refine W.forget (fun e27 he27 => ?_)
                  have f0_27 := congrArg (fun q => Env.get q 0) he27
                  simp only [Env.put_some, Env.put_none, Env.get_set, Env.get_set, Nat.reduceEqDiff, reduceIte, if_true, if_false, eq_self, f0_10] at f0_27
                  have f2_27 := congrArg (fun q => Env.get q 2) he27
                  simp only [Env.put_some, Env.put_none, Env.get_set, Env.get_set, Nat.reduceEqDiff, reduceIte, if_true, if_false, eq_self, f2_10] at f2_27
                  have f3_27 := congrArg (fun q => Env.get q 3) he27
                  simp only [Env.put_some, Env.put_none, Env.get_set, Env.get_set, Nat.reduceEqDiff, reduceIte, if_true, if_false, eq_self, f3_10] at f3_27
                  have f4_27 := congrArg (fun q => Env.get q 4) he27
                  simp only [Env.put_some, Env.put_none, Env.get_set, Env.get_set, Nat.reduceEqDiff, reduceIte, if_true, if_false, eq_self, f4_10] at f4_27
                  have f5_27 := congrArg (fun q => Env.get q 5) he27
                  simp only [Env.put_some, Env.put_none, Env.get_set, Env.get_set, Nat.reduceEqDiff, reduceIte, if_true, if_false, eq_self, f5_10] at f5_27
                  have f6_27 := congrArg (fun q => Env.get q 6) he27
                  simp only [Env.put_some, Env.put_none, Env.get_set, Env.get_set, Nat.reduceEqDiff, reduceIte, if_true, if_false, eq_self, f6_10] at f6_27
                  clear he27 f0_10 f2_10 f3_10 f4_10 f5_10 f6_10 f7_10 f24_10
                  refine W.thenN ?_
                  have tt := hj.t
                  obtain rfl : j = l.length := by omega
                  exact ⟨i + 1, by dsimp only; omega, by rw [outr_step, outr_step]; exact tt, f0_27, f2_27, f3_27, f4_27, f5_27, f6_27, by omega⟩)
           · exact ⟨by rw [inn_nil, inn_nil, List.append_nil, List.append_nil]; exact hi.t, f0_8, f2_8, f3_8, f4_8, f5_8, f6_8, f7_8, by omega, by omega⟩)
      · first
        | (cases hc7; done)
        | (exfalso; simp only [decide_eq_true_eq, decide_eq_false_iff_not, Bool.not_eq_true', Bool.not_eq_false', Bool.not_eq_eq_eq_not, Bool.not_true, Bool.not_false] at hc7; omega)
        | (skip
           try simp only [decide_eq_true_eq, decide_eq_false_iff_not, Bool.not_eq_true', Bool.not_eq_false', Bool.not_eq_eq_eq_not, Bool.not_true, Bool.not_false] at hc7
           refine W.exit ?_
           refine W.thenE ?_
           refine W.thenE ?_
           refine W.blockE ?_
           refine W.thenN ?_
           refine W.seq ?_
           refine W.drawP _ dr29_14 (fun K hK => ?_)
           obtain rfl : i = l.length := by omega
           have z2 := hi.t.z2
           have z3 := hi.t.z3
           have gl := hi.t.gl
           have gg := hi.t.gg
           simp (config := { maxSteps := 10000000 }) only [go_sem, ↓forkQ_true, ↓forkQ_false, ↓guardQ_some, ↓resQ_val, ↓resQ_unit, ↓resQ_enter, ↓retQ_some, ↓resFQ_val, ↓resFQ_unit, ↓resFQ_enter, ↓retFQ_some, Nat.reduceEqDiff, reduceIte, Nat.reduceAdd, Nat.reduceMul, Nat.reduceSub, reduceCtorEq, Nat.reduceLeDiff, f0_6, f2_6, f3_6, f4_6, f5_6, f6_6, f16_6, z2, z3, gl, gg]
           refine hK _ _ _ (by simp only [go_sem, ↓forkQ_true, ↓forkQ_false, ↓guardQ_some, ↓resQ_val, ↓resQ_unit, ↓resQ_enter, ↓retQ_some, ↓resFQ_val, ↓resFQ_unit, ↓resFQ_enter, ↓retFQ_some, Nat.reduceEqDiff, reduceIte, Nat.reduceAdd, Nat.reduceMul, Nat.reduceSub, reduceCtorEq, Nat.reduceLeDiff]) ?_
           clear hK K
           refine W.forget (fun e28 he28 => ?_)
           have f2_28 := congrArg (fun q => Env.get q 2) he28
           simp only [Env.put_some, Env.put_none, Env.get_set, Env.get_set, Nat.reduceEqDiff, reduceIte, if_true, if_false, eq_self, f2_6] at f2_28
           have f3_28 := congrArg (fun q => Env.get q 3) he28
           simp only [Env.put_some, Env.put_none, Env.get_set, Env.get_set, Nat.reduceEqDiff, reduceIte, if_true, if_false, eq_self, f3_6] at f3_28
           clear he28 f0_6 f2_6 f3_6 f4_6 f5_6 f6_6 f16_6
           refine W.thenN ?_
           refine W.ret ?_
           rw [flatQ_ret]
           refine ⟨by simp only [go_sem, ↓forkQ_true, ↓forkQ_false, ↓guardQ_some, ↓resQ_val, ↓resQ_unit, ↓resQ_enter, ↓retQ_some, ↓resFQ_val, ↓resFQ_unit, ↓resFQ_enter, ↓retFQ_some, Nat.reduceEqDiff, reduceIte, Nat.reduceAdd, Nat.reduceMul, Nat.reduceSub, reduceCtorEq, Nat.reduceLeDiff, ex.wr], ?_⟩
           simp only [go_sem, ↓forkQ_true, ↓forkQ_false, ↓guardQ_some, ↓resQ_val, ↓resQ_unit, ↓resQ_enter, ↓retQ_some, ↓resFQ_val, ↓resFQ_unit, ↓resFQ_enter, ↓retFQ_some, Nat.reduceEqDiff, reduceIte, Nat.reduceAdd, Nat.reduceMul, Nat.reduceSub, reduceCtorEq, Nat.reduceLeDiff, f2_28, f3_28, gl, gg, z2, z3])
    · exact ⟨⟨((((((Ext.low h).alloc _).alloc _).alloc _).alloc _).set (by first | omega | (show h.next ≤ h.next + 1 + 1; omega) | (show h.next ≤ h.next + 1 + 1 + 1; omega)) _).set (by first | omega | (show h.next ≤ h.next + 1 + 1; omega) | (show h.next ≤ h.next + 1 + 1 + 1; omega)) _, Nat.le_refl _, by simp only [go_sem, ↓forkQ_true, ↓forkQ_false, ↓guardQ_some, ↓resQ_val, ↓resQ_unit, ↓resQ_enter, ↓retQ_some, ↓resFQ_val, ↓resFQ_unit, ↓resFQ_enter, ↓retFQ_some, Nat.reduceEqDiff, reduceIte, Nat.reduceAdd, Nat.reduceMul, Nat.reduceSub, reduceCtorEq, Nat.reduceLeDiff], by simp only [go_sem, ↓forkQ_true, ↓forkQ_false, ↓guardQ_some, ↓resQ_val, ↓resQ_unit, ↓resQ_enter, ↓retQ_some, ↓resFQ_val, ↓resFQ_unit, ↓resFQ_enter, ↓retFQ_some, Nat.reduceEqDiff, reduceIte, Nat.reduceAdd, Nat.reduceMul, Nat.reduceSub, reduceCtorEq, Nat.reduceLeDiff], by simp only [go_sem, ↓forkQ_true, ↓forkQ_false, ↓guardQ_some, ↓resQ_val, ↓resQ_unit, ↓resQ_enter, ↓retQ_some, ↓resFQ_val, ↓resFQ_unit, ↓resFQ_enter, ↓retFQ_some, Nat.reduceEqDiff, reduceIte, Nat.reduceAdd, Nat.reduceMul, Nat.reduceSub, reduceCtorEq, Nat.reduceLeDiff]; rfl, by simp only [go_sem, ↓forkQ_true, ↓forkQ_false, ↓guardQ_some, ↓resQ_val, ↓resQ_unit, ↓resQ_enter, ↓retQ_some, ↓resFQ_val, ↓resFQ_unit, ↓resFQ_enter, ↓retFQ_some, Nat.reduceEqDiff, reduceIte, Nat.reduceAdd, Nat.reduceMul, Nat.reduceSub, reduceCtorEq, Nat.reduceLeDiff]; rfl, rfl, rfl, by show (1 : Int) ≠ 0; decide, by show (1 : Int) ≠ 0; decide⟩, f0_4, f2_4, f3_4, f4_4, f5_4, f6_4, Nat.zero_le _⟩
  · rfl
end Go.Proofs.Ytlblocieleildaa
