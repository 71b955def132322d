/- The law of tightness, walked. -/
import Derived.Test.YtlblocieleildaaSk7
import Derived.Test.YtlblocieleildaaSk19
import Derived.Test.YtlblocieleildaaSk22
import Derived.Test.YtlblocieleildaaTp2
set_option linter.unusedSimpArgs false
set_option linter.unusedVariables false
set_option maxRecDepth 20000
set_option maxHeartbeats 8000000
namespace Go.Proofs.Ytlblocieleildaa
open Go.Am

/-- the least and the greatest of pairs as they are -/
def lstF (ps : List (Int × Int)) : Int × Int := ps.foldl (fun b p => if lessZ b.1 b.2 p.1 p.2 = true then p else b) (-1099511627776, 1)
def grtF (ps : List (Int × Int)) : Int × Int := ps.foldl (fun b p => if lessZ p.1 p.2 b.1 b.2 = true then p else b) (1099511627776, 1)
theorem lstF_one (ps : List (Int × Int)) (p : Int × Int) : lstF (ps ++ [p]) = if lessZ (lstF ps).1 (lstF ps).2 p.1 p.2 = true then p else lstF ps := by unfold lstF; rw [List.foldl_append]; rfl
theorem grtF_one (ps : List (Int × Int)) (p : Int × Int) : grtF (ps ++ [p]) = if lessZ p.1 p.2 (grtF ps).1 (grtF ps).2 = true then p else grtF ps := by unfold grtF; rw [List.foldl_append]; rfl
/-- whether one of them is this fraction -/
def hitS (n d : Int) (ps : List (Int × Int)) : Bool := ps.any fun p => decide (n * p.2 = p.1 * d)
theorem hitS_one (n d : Int) (ps : List (Int × Int)) (p : Int × Int) : hitS n d (ps ++ [p]) = (hitS n d ps || decide (n * p.2 = p.1 * d)) := by unfold hitS; rw [List.any_append]; simp
/-- the four blocks of the law -/
structure Tw (h h1 : Heap) (n1 d1 n2 d2 : Int) (p q : Int × Int) : Prop where
  ex : Ext h h1
  nx : h.next + 1 + 1 + 1 + 1 ≤ h1.next
  z3 : h1.get h.next = some ⟨[.int .i64 n1, .int .i64 d1], true, false, none⟩
  z4 : h1.get (h.next + 1) = some ⟨[.int .i64 n2, .int .i64 d2], true, false, none⟩
  gl : h1.get (h.next + 1 + 1) = some ⟨[.int .i64 p.1, .int .i64 p.2], true, false, none⟩
  gg : h1.get (h.next + 1 + 1 + 1) = some ⟨[.int .i64 q.1, .int .i64 q.2], true, false, none⟩
  dp : p.2 ≠ 0
  dq : q.2 ≠ 0
section
variable {h h1 h2 : Heap} {n1 d1 n2 d2 : Int} {ps qs : List (Int × Int)} {p : Int × Int}
theorem Tw.grow {p q : Int × Int} (t : Tw h h1 n1 d1 n2 d2 p q) (ex : Ext h h2) (hn : h1.next ≤ h2.next) (hg : ∀ b, b < h1.next → h2.get b = h1.get b) : Tw h h2 n1 d1 n2 d2 p q :=
  have := t.nx
  ⟨ex, Nat.le_trans t.nx hn, (hg _ (by omega)).trans t.z3, (hg _ (by omega)).trans t.z4, (hg _ (by omega)).trans t.gl, (hg _ (by omega)).trans t.gg, t.dp, t.dq⟩
theorem Tw.least (t : Tw h h1 n1 d1 n2 d2 (lstF ps) (grtF qs)) (hd : p.2 ≠ 0) (hl : lessZ (lstF ps).1 (lstF ps).2 p.1 p.2 = true) : Tw h (h1.set (h.next + 1 + 1) ⟨[.int .i64 p.1, .int .i64 p.2], true, false, none⟩) n1 d1 n2 d2 (lstF (ps ++ [p])) (grtF qs) := by
  have := t.nx
  rw [lstF_one, if_pos hl]
  exact ⟨t.ex.set (by omega) _, t.nx, (Heap.get_set_ne _ _ (by omega)).trans t.z3, (Heap.get_set_ne _ _ (by omega)).trans t.z4, Heap.get_set_same _ _ _, (Heap.get_set_ne _ _ (by omega)).trans t.gg, hd, t.dq⟩
theorem Tw.least' (t : Tw h h1 n1 d1 n2 d2 (lstF ps) (grtF qs)) (hl : lessZ (lstF ps).1 (lstF ps).2 p.1 p.2 = false) : Tw h h1 n1 d1 n2 d2 (lstF (ps ++ [p])) (grtF qs) := by
  rw [lstF_one, if_neg (by rw [hl]; simp)]; exact t
theorem Tw.most (t : Tw h h1 n1 d1 n2 d2 (lstF ps) (grtF qs)) (hd : p.2 ≠ 0) (hl : lessZ p.1 p.2 (grtF qs).1 (grtF qs).2 = true) : Tw h (h1.set (h.next + 1 + 1 + 1) ⟨[.int .i64 p.1, .int .i64 p.2], true, false, none⟩) n1 d1 n2 d2 (lstF ps) (grtF (qs ++ [p])) := by
  have := t.nx
  rw [grtF_one, if_pos hl]
  exact ⟨t.ex.set (by omega) _, t.nx, (Heap.get_set_ne _ _ (by omega)).trans t.z3, (Heap.get_set_ne _ _ (by omega)).trans t.z4, (Heap.get_set_ne _ _ (by omega)).trans t.gl, Heap.get_set_same _ _ _, t.dp, hd⟩
theorem Tw.most' (t : Tw h h1 n1 d1 n2 d2 (lstF ps) (grtF qs)) (hl : lessZ p.1 p.2 (grtF qs).1 (grtF qs).2 = false) : Tw h h1 n1 d1 n2 d2 (lstF ps) (grtF (qs ++ [p])) := by
  rw [grtF_one, if_neg (by rw [hl]; simp)]; exact t
end
structure I7 (l : List Gt) (a : Option Addr) (c : Nat) (h : Heap) (er n1 d1 n2 d2 : Int) (lv hv : List (Int × Int) → Bool) (i : Nat) (e : Env) (h1 : Heap) : Prop where
  t : Tw h h1 n1 d1 n2 d2 (lstF (outr (rlP l) l.length i)) (grtF (outr (rgP l) l.length i))
  e0 : e.get 0 = .slice a l.length c
  e3 : e.get 3 = .pointer (some ⟨h.next, 0, none⟩)
  e4 : e.get 4 = .pointer (some ⟨h.next + 1, 0, none⟩)
  e5 : e.get 5 = .int .i64 er
  e6 : e.get 6 = .bool (lv (outr (rlP l) l.length i))
  e7 : e.get 7 = .bool (hv (outr (rgP l) l.length i))
  e8 : e.get 8 = .pointer (some ⟨h.next + 1 + 1, 0, none⟩)
  e9 : e.get 9 = .pointer (some ⟨h.next + 1 + 1 + 1, 0, none⟩)
  e10 : e.get 10 = .int .i64 (i : Int)
  le : i ≤ l.length
structure J7 (l : List Gt) (a : Option Addr) (c : Nat) (h : Heap) (er n1 d1 n2 d2 : Int) (lv hv : List (Int × Int) → Bool) (i : Nat) (j : Nat) (e : Env) (h1 : Heap) : Prop where
  t : Tw h h1 n1 d1 n2 d2 (lstF (outr (rlP l) l.length i ++ inn (rlP l) i j)) (grtF (outr (rgP l) l.length i ++ inn (rgP l) i j))
  e0 : e.get 0 = .slice a l.length c
  e3 : e.get 3 = .pointer (some ⟨h.next, 0, none⟩)
  e4 : e.get 4 = .pointer (some ⟨h.next + 1, 0, none⟩)
  e5 : e.get 5 = .int .i64 er
  e6 : e.get 6 = .bool (lv (outr (rlP l) l.length i ++ inn (rlP l) i j))
  e7 : e.get 7 = .bool (hv (outr (rgP l) l.length i ++ inn (rgP l) i j))
  e8 : e.get 8 = .pointer (some ⟨h.next + 1 + 1, 0, none⟩)
  e9 : e.get 9 = .pointer (some ⟨h.next + 1 + 1 + 1, 0, none⟩)
  e10 : e.get 10 = .int .i64 (i : Int)
  e11 : e.get 11 = .int .i64 (j : Int)
  lt : i < j
  le : j ≤ l.length
structure M7 (l : List Gt) (a : Option Addr) (c : Nat) (h : Heap) (er n1 d1 n2 d2 : Int) (lv hv : List (Int × Int) → Bool) (i j kn : Nat) (ps qs : List (Int × Int)) (e : Env) (h1 : Heap) : Prop where
  t : Tw h h1 n1 d1 n2 d2 (lstF ps) (grtF qs)
  g13 : h1.get kn = some ⟨[.int .i64 ((gt l j).lo - (gt l i).hi), .int .i64 ((gt l j).x - (gt l i).x)], true, false, none⟩
  g14 : h1.get (kn + 1) = some ⟨[.int .i64 ((gt l j).hi - (gt l i).lo), .int .i64 ((gt l j).x - (gt l i).x)], true, false, none⟩
  e0 : e.get 0 = .slice a l.length c
  e3 : e.get 3 = .pointer (some ⟨h.next, 0, none⟩)
  e4 : e.get 4 = .pointer (some ⟨h.next + 1, 0, none⟩)
  e5 : e.get 5 = .int .i64 er
  e6 : e.get 6 = .bool (lv (outr (rlP l) l.length i ++ inn (rlP l) i j))
  e7 : e.get 7 = .bool (hv (outr (rgP l) l.length i ++ inn (rgP l) i j))
  e8 : e.get 8 = .pointer (some ⟨h.next + 1 + 1, 0, none⟩)
  e9 : e.get 9 = .pointer (some ⟨h.next + 1 + 1 + 1, 0, none⟩)
  e10 : e.get 10 = .int .i64 (i : Int)
  e11 : e.get 11 = .int .i64 (j : Int)
  e12 : e.get 12 = .int .i64 ((gt l j).x - (gt l i).x)
  e13 : e.get 13 = .pointer (some ⟨kn, 0, none⟩)
  e14 : e.get 14 = .pointer (some ⟨kn + 1, 0, none⟩)
theorem w7_ok (l : List Gt) (a : Option Addr) (c : Nat) (h : Heap) (hg : GA h l a) (o : Ok l) (hl : l.length ≤ 24) (h2 : 2 ≤ l.length) (n1 d1 n2 d2 : Int)
    (q12 : callW Try.prog SkH 12 [.slice a l.length c] (h.low h.next) = some (.tuple #[.agg #[.int .i64 n1, .int .i64 d1], .agg #[.int .i64 n2, .int .i64 d2], .int .i64 0], h.low h.next, true)) (hn1 : -2147483648 ≤ n1 ∧ n1 ≤ 2147483648) (hd1 : 0 < d1 ∧ d1 ≤ 1073741824) (hg1 : Int.gcd n1 d1 = 1) (hn2 : -2147483648 ≤ n2 ∧ n2 ≤ 2147483648) (hd2 : 0 < d2 ∧ d2 ≤ 1073741824) (hg2 : Int.gcd n2 d2 = 1)
    (hA : ∀ i j, i < j → j < l.length → lessZ n1 d1 ((gt l j).lo - (gt l i).hi) ((gt l j).x - (gt l i).x) = false) (hB : ∀ i j, i < j → j < l.length → lessZ ((gt l j).hi - (gt l i).lo) ((gt l j).x - (gt l i).x) n2 d2 = false)
    (hlo : hitS n1 d1 (outr (rlP l) l.length l.length) = true) (hhi : hitS n2 d2 (outr (rgP l) l.length l.length) = true) (hle2 : lessZ n2 d2 n1 d1 = false) (hpass : passP l = true) :
    ∃ code, Try.f7.body = some code ∧ Wp Try.prog cfT (SkH 7) code (doneQ Try.prog Try.f7.results.toList (fun vs _ => vs = [.bool true])) (Env.ofList [.slice a l.length c] 0) (h.low h.next) := by
  refine ⟨_, rfl, ?_⟩
  show Wp Try.prog cfT (SkH 7) _ (doneQ Try.prog [.tmp 2] _) _ _
  have t10 : cfT 10 = callW Try.prog SkH 10 := cfT_ne (by decide)
  have t12 : cfT 12 = callW Try.prog SkH 12 := cfT_ne (by decide)
  have t14 : cfT 14 = callW Try.prog SkH 14 := cfT_ne (by decide)
  have t16 : cfT 16 = callW Try.prog SkH 16 := cfT_ne (by decide)
  have t26 : cfT 26 = callW Try.prog SkH 26 := cfT_ne (by decide)
  have t27 : cfT 27 = callW Try.prog SkH 27 := cfT_ne (by decide)
  have hf : ((l.length : Int) ≤ 24) = True := eq_true (by omega)
  have hz := (checkZ_ok l).2 o
  have h2f : ((l.length : Int) < 2) = False := eq_false (by omega)
  have q14 := c14 l a c (h.low h.next) (hg.ext (Ext.low h)) hl
  have k11 : ((11 : Int) = 0) = False := eq_false (by decide)
  have q26a := c26 n1 d1 (by omega) hd1 hg1
  have q26b := c26 n2 d2 (by omega) hd2 hg2
  have ra1 : (n1 < -2147483648) = False := eq_false (by omega)
  have ra2 : (2147483648 < n1) = False := eq_false (by omega)
  have rb1 : (n2 < -2147483648) = False := eq_false (by omega)
  have rb2 : (2147483648 < n2) = False := eq_false (by omega)
  refine W.forget (fun e1 he1 => ?_)
  have f0_1 := congrArg (fun q => Env.get q 0) he1
  simp only [ofList_cons, ofList_nil, go_sem, Nat.reduceEqDiff, reduceIte] at f0_1
  clear he1
  refine W.seq ?_
  refine W.region (fun K hK => ?_)
  simp (config := { maxSteps := 10000000 }) only [go_sem, ↓forkQ_true, ↓forkQ_false, ↓guardQ_some, ↓resQ_val, ↓resQ_unit, ↓resQ_enter, ↓retQ_some, ↓resFQ_val, ↓resFQ_unit, ↓resFQ_enter, ↓retFQ_some, Nat.reduceEqDiff, reduceIte, Nat.reduceAdd, Nat.reduceMul, Nat.reduceSub, reduceCtorEq, Nat.reduceLeDiff, f0_1, t10, t12, t14, t16, t26, t27]
  refine hK _ _ ?_
  clear hK K
  refine W.forget (fun e2 he2 => ?_)
  have f0_2 := congrArg (fun q => Env.get q 0) he2
  simp only [go_sem, Nat.reduceEqDiff, reduceIte, f0_1] at f0_2
  have f2_2 := congrArg (fun q => Env.get q 2) he2
  simp only [go_sem, Nat.reduceEqDiff, reduceIte] at f2_2
  clear he2 f0_1
  refine W.thenN ?_
  refine W.seq ?_
  refine W.seq ?_
  refine W.regionA (fun A hA K hK => ?_)
  have gd3 := guardAt hA (j := 3) (d := 18) rfl
  have gd8 := guardAt hA (j := 8) (d := 23) rfl
  clear hA
  simp (config := { maxSteps := 10000000 }) only [go_sem, ↓forkQ_true, ↓forkQ_false, ↓guardQ_some, ↓resQ_val, ↓resQ_unit, ↓resQ_enter, ↓retQ_some, ↓resFQ_val, ↓resFQ_unit, ↓resFQ_enter, ↓retFQ_some, Nat.reduceEqDiff, reduceIte, Nat.reduceAdd, Nat.reduceMul, Nat.reduceSub, reduceCtorEq, Nat.reduceLeDiff, f0_2, f2_2, t10, t12, t14, t16, t26, t27, c10, hf, q14, hz, h2f, gd3, gd8]
  repeat' (first | (refine W.forkP (fun hc3 => ?_) (fun hc3 => ?_) <;> simp (config := { maxSteps := 10000000 }) only [go_sem, ↓forkQ_true, ↓forkQ_false, ↓guardQ_some, ↓resQ_val, ↓resQ_unit, ↓resQ_enter, ↓retQ_some, ↓resFQ_val, ↓resFQ_unit, ↓resFQ_enter, ↓retFQ_some, Nat.reduceEqDiff, reduceIte, Nat.reduceAdd, Nat.reduceMul, Nat.reduceSub, reduceCtorEq, Nat.reduceLeDiff, f0_2, f2_2, t10, t12, t14, t16, t26, t27, c10, hf, q14, hz, h2f, gd3, gd8, hc3]) | (refine W.fork (fun hc3 => ?_) (fun hc3 => ?_) <;> simp (config := { maxSteps := 10000000 }) only [go_sem, ↓forkQ_true, ↓forkQ_false, ↓guardQ_some, ↓resQ_val, ↓resQ_unit, ↓resQ_enter, ↓retQ_some, ↓resFQ_val, ↓resFQ_unit, ↓resFQ_enter, ↓retFQ_some, Nat.reduceEqDiff, reduceIte, Nat.reduceAdd, Nat.reduceMul, Nat.reduceSub, reduceCtorEq, Nat.reduceLeDiff, f0_2, f2_2, t10, t12, t14, t16, t26, t27, c10, hf, q14, hz, h2f, gd3, gd8, hc3]))
  all_goals
    refine hK _ _ ?_
    clear hK K A gd3 gd8
    refine W.forget (fun e3 he3 => ?_)
    have f0_3 := congrArg (fun q => Env.get q 0) he3
    simp only [go_sem, Nat.reduceEqDiff, reduceIte, f0_2] at f0_3
    have f2_3 := congrArg (fun q => Env.get q 2) he3
    simp only [go_sem, Nat.reduceEqDiff, reduceIte, f2_2] at f2_3
    have f27_3 := congrArg (fun q => Env.get q 27) he3
    simp only [go_sem, Nat.reduceEqDiff, reduceIte] at f27_3
    clear he3 f0_2 f2_2
    refine W.thenN ?_
    refine W.cond f27_3 (fun hc4 => ?_) (fun hc4 => ?_)
    · first
      | (cases hc4; done)
      | (exfalso; simp only [decide_eq_true_eq, decide_eq_false_iff_not, Bool.not_eq_true', Bool.not_eq_false', Bool.not_eq_eq_eq_not, Bool.not_true, Bool.not_false] at hc4; omega)
      | (skip
         try simp only [decide_eq_true_eq, decide_eq_false_iff_not, Bool.not_eq_true', Bool.not_eq_false', Bool.not_eq_eq_eq_not, Bool.not_true, Bool.not_false] at hc4
         refine W.seq ?_
         refine W.region (fun K hK => ?_)
         simp (config := { maxSteps := 10000000 }) only [go_sem, ↓forkQ_true, ↓forkQ_false, ↓guardQ_some, ↓resQ_val, ↓resQ_unit, ↓resQ_enter, ↓retQ_some, ↓resFQ_val, ↓resFQ_unit, ↓resFQ_enter, ↓retFQ_some, Nat.reduceEqDiff, reduceIte, Nat.reduceAdd, Nat.reduceMul, Nat.reduceSub, reduceCtorEq, Nat.reduceLeDiff, f0_3, f2_3, f27_3, t10, t12, t14, t16, t26, t27, c10, hf, q14, hz, h2f]
         refine hK _ _ ?_
         clear hK K
         refine W.forget (fun e5 he5 => ?_)
         have f0_5 := congrArg (fun q => Env.get q 0) he5
         simp only [go_sem, Nat.reduceEqDiff, reduceIte, f0_3] at f0_5
         have f2_5 := congrArg (fun q => Env.get q 2) he5
         simp only [go_sem, Nat.reduceEqDiff, reduceIte, f2_3] at f2_5
         clear he5 f0_3 f2_3 f27_3
         refine W.thenN ?_
         refine W.ret ?_
         refine W.thenR ?_
         rw [doneQ_ret]
         exact ⟨[.bool true], by simp only [go_sem, ↓forkQ_true, ↓forkQ_false, ↓guardQ_some, ↓resQ_val, ↓resQ_unit, ↓resQ_enter, ↓retQ_some, ↓resFQ_val, ↓resFQ_unit, ↓resFQ_enter, ↓retFQ_some, Nat.reduceEqDiff, reduceIte, Nat.reduceAdd, Nat.reduceMul, Nat.reduceSub, reduceCtorEq, Nat.reduceLeDiff, f0_5, f2_5], rfl⟩)
    · first
      | (cases hc4; done)
      | (exfalso; simp only [decide_eq_true_eq, decide_eq_false_iff_not, Bool.not_eq_true', Bool.not_eq_false', Bool.not_eq_eq_eq_not, Bool.not_true, Bool.not_false] at hc4; omega)
      | (skip
         try simp only [decide_eq_true_eq, decide_eq_false_iff_not, Bool.not_eq_true', Bool.not_eq_false', Bool.not_eq_eq_eq_not, Bool.not_true, Bool.not_false] at hc4
         refine W.skip ?_
         refine W.thenN ?_
         refine W.seq ?_
         refine W.region (fun K hK => ?_)
         simp (config := { maxSteps := 10000000 }) only [go_sem, ↓forkQ_true, ↓forkQ_false, ↓guardQ_some, ↓resQ_val, ↓resQ_unit, ↓resQ_enter, ↓retQ_some, ↓resFQ_val, ↓resFQ_unit, ↓resFQ_enter, ↓retFQ_some, Nat.reduceEqDiff, reduceIte, Nat.reduceAdd, Nat.reduceMul, Nat.reduceSub, reduceCtorEq, Nat.reduceLeDiff, f0_3, f2_3, f27_3, t10, t12, t14, t16, t26, t27, c10, hf, q14, hz, h2f, q12]
         refine hK _ _ ?_
         clear hK K
         refine W.forget (fun e6 he6 => ?_)
         have f0_6 := congrArg (fun q => Env.get q 0) he6
         simp only [go_sem, Nat.reduceEqDiff, reduceIte, f0_3] at f0_6
         have f2_6 := congrArg (fun q => Env.get q 2) he6
         simp only [go_sem, Nat.reduceEqDiff, reduceIte, f2_3] at f2_6
         have f3_6 := congrArg (fun q => Env.get q 3) he6
         simp only [go_sem, Nat.reduceEqDiff, reduceIte] at f3_6
         have f4_6 := congrArg (fun q => Env.get q 4) he6
         simp only [go_sem, Nat.reduceEqDiff, reduceIte] at f4_6
         have f5_6 := congrArg (fun q => Env.get q 5) he6
         simp only [go_sem, Nat.reduceEqDiff, reduceIte] at f5_6
         clear he6 f0_3 f2_3 f27_3
         refine W.thenN ?_
         refine W.seq ?_
         refine W.seq ?_
         refine W.regionA (fun A hA K hK => ?_)
         have gd2 := guardAt hA (j := 2) (d := 37) rfl
         have gd6 := guardAt hA (j := 6) (d := 41) rfl
         have gd11 := guardAt hA (j := 11) (d := 46) rfl
         have gd16 := guardAt hA (j := 16) (d := 51) rfl
         have gd21 := guardAt hA (j := 21) (d := 56) rfl
         have gd26 := guardAt hA (j := 26) (d := 61) rfl
         clear hA
         simp (config := { maxSteps := 10000000 }) only [go_sem, ↓forkQ_true, ↓forkQ_false, ↓guardQ_some, ↓resQ_val, ↓resQ_unit, ↓resQ_enter, ↓retQ_some, ↓resFQ_val, ↓resFQ_unit, ↓resFQ_enter, ↓retFQ_some, Nat.reduceEqDiff, reduceIte, Nat.reduceAdd, Nat.reduceMul, Nat.reduceSub, reduceCtorEq, Nat.reduceLeDiff, f0_6, f2_6, f3_6, f4_6, f5_6, t10, t12, t14, t16, t26, t27, c10, hf, q14, hz, h2f, q12, q26a, q26b, ra1, ra2, rb1, rb2, gd2, gd6, gd11, gd16, gd21, gd26]
         repeat' (first | (refine W.forkP (fun hc7 => ?_) (fun hc7 => ?_) <;> simp (config := { maxSteps := 10000000 }) only [go_sem, ↓forkQ_true, ↓forkQ_false, ↓guardQ_some, ↓resQ_val, ↓resQ_unit, ↓resQ_enter, ↓retQ_some, ↓resFQ_val, ↓resFQ_unit, ↓resFQ_enter, ↓retFQ_some, Nat.reduceEqDiff, reduceIte, Nat.reduceAdd, Nat.reduceMul, Nat.reduceSub, reduceCtorEq, Nat.reduceLeDiff, f0_6, f2_6, f3_6, f4_6, f5_6, t10, t12, t14, t16, t26, t27, c10, hf, q14, hz, h2f, q12, q26a, q26b, ra1, ra2, rb1, rb2, gd2, gd6, gd11, gd16, gd21, gd26, hc7]) | (refine W.fork (fun hc7 => ?_) (fun hc7 => ?_) <;> simp (config := { maxSteps := 10000000 }) only [go_sem, ↓forkQ_true, ↓forkQ_false, ↓guardQ_some, ↓resQ_val, ↓resQ_unit, ↓resQ_enter, ↓retQ_some, ↓resFQ_val, ↓resFQ_unit, ↓resFQ_enter, ↓retFQ_some, Nat.reduceEqDiff, reduceIte, Nat.reduceAdd, Nat.reduceMul, Nat.reduceSub, reduceCtorEq, Nat.reduceLeDiff, f0_6, f2_6, f3_6, f4_6, f5_6, t10, t12, t14, t16, t26, t27, c10, hf, q14, hz, h2f, q12, q26a, q26b, ra1, ra2, rb1, rb2, gd2, gd6, gd11, gd16, gd21, gd26, hc7]))
         all_goals
           refine hK _ _ ?_
           clear hK K A gd2 gd6 gd11 gd16 gd21 gd26
           refine W.forget (fun e7 he7 => ?_)
           have f0_7 := congrArg (fun q => Env.get q 0) he7
           simp only [go_sem, Nat.reduceEqDiff, reduceIte, f0_6] at f0_7
           have f2_7 := congrArg (fun q => Env.get q 2) he7
           simp only [go_sem, Nat.reduceEqDiff, reduceIte, f2_6] at f2_7
           have f3_7 := congrArg (fun q => Env.get q 3) he7
           simp only [go_sem, Nat.reduceEqDiff, reduceIte, f3_6] at f3_7
           have f4_7 := congrArg (fun q => Env.get q 4) he7
           simp only [go_sem, Nat.reduceEqDiff, reduceIte, f4_6] at f4_7
           have f5_7 := congrArg (fun q => Env.get q 5) he7
           simp only [go_sem, Nat.reduceEqDiff, reduceIte, f5_6] at f5_7
           have f66_7 := congrArg (fun q => Env.get q 66) he7
           simp only [go_sem, Nat.reduceEqDiff, reduceIte] at f66_7
           clear he7 f0_6 f2_6 f3_6 f4_6 f5_6
           refine W.thenN ?_
           refine W.cond f66_7 (fun hc8 => ?_) (fun hc8 => ?_)
           · first
             | (cases hc8; done)
             | (exfalso; simp only [decide_eq_true_eq, decide_eq_false_iff_not, Bool.not_eq_true', Bool.not_eq_false', Bool.not_eq_eq_eq_not, Bool.not_true, Bool.not_false] at hc8; omega)
             | (skip
                try simp only [decide_eq_true_eq, decide_eq_false_iff_not, Bool.not_eq_true', Bool.not_eq_false', Bool.not_eq_eq_eq_not, Bool.not_true, Bool.not_false] at hc8
                refine W.seq ?_
                refine W.region (fun K hK => ?_)
                simp (config := { maxSteps := 10000000 }) only [go_sem, ↓forkQ_true, ↓forkQ_false, ↓guardQ_some, ↓resQ_val, ↓resQ_unit, ↓resQ_enter, ↓retQ_some, ↓resFQ_val, ↓resFQ_unit, ↓resFQ_enter, ↓retFQ_some, Nat.reduceEqDiff, reduceIte, Nat.reduceAdd, Nat.reduceMul, Nat.reduceSub, reduceCtorEq, Nat.reduceLeDiff, f0_7, f2_7, f3_7, f4_7, f5_7, f66_7, t10, t12, t14, t16, t26, t27, c10, hf, q14, hz, h2f, q12, q26a, q26b, ra1, ra2, rb1, rb2]
                refine hK _ _ ?_
                clear hK K
                refine W.forget (fun e9 he9 => ?_)
                have f0_9 := congrArg (fun q => Env.get q 0) he9
                simp only [go_sem, Nat.reduceEqDiff, reduceIte, f0_7] at f0_9
                have f2_9 := congrArg (fun q => Env.get q 2) he9
                simp only [go_sem, Nat.reduceEqDiff, reduceIte, f2_7] at f2_9
                have f3_9 := congrArg (fun q => Env.get q 3) he9
                simp only [go_sem, Nat.reduceEqDiff, reduceIte, f3_7] at f3_9
                have f4_9 := congrArg (fun q => Env.get q 4) he9
                simp only [go_sem, Nat.reduceEqDiff, reduceIte, f4_7] at f4_9
                have f5_9 := congrArg (fun q => Env.get q 5) he9
                simp only [go_sem, Nat.reduceEqDiff, reduceIte, f5_7] at f5_9
                clear he9 f0_7 f2_7 f3_7 f4_7 f5_7 f66_7
                refine W.thenN ?_
                refine W.ret ?_
                refine W.thenR ?_
                rw [doneQ_ret]
                exact ⟨[.bool true], by simp only [go_sem, ↓forkQ_true, ↓forkQ_false, ↓guardQ_some, ↓resQ_val, ↓resQ_unit, ↓resQ_enter, ↓retQ_some, ↓resFQ_val, ↓resFQ_unit, ↓resFQ_enter, ↓retFQ_some, Nat.reduceEqDiff, reduceIte, Nat.reduceAdd, Nat.reduceMul, Nat.reduceSub, reduceCtorEq, Nat.reduceLeDiff, f0_9, f2_9, f3_9, f4_9, f5_9], rfl⟩)
           · first
             | (cases hc8; done)
             | (exfalso; simp only [decide_eq_true_eq, decide_eq_false_iff_not, Bool.not_eq_true', Bool.not_eq_false', Bool.not_eq_eq_eq_not, Bool.not_true, Bool.not_false] at hc8; omega)
             | (skip
                try simp only [decide_eq_true_eq, decide_eq_false_iff_not, Bool.not_eq_true', Bool.not_eq_false', Bool.not_eq_eq_eq_not, Bool.not_true, Bool.not_false] at hc8
                refine W.skip ?_
                refine W.thenN ?_
                refine W.seq ?_
                refine W.region (fun K hK => ?_)
                simp (config := { maxSteps := 10000000 }) only [go_sem, ↓forkQ_true, ↓forkQ_false, ↓guardQ_some, ↓resQ_val, ↓resQ_unit, ↓resQ_enter, ↓retQ_some, ↓resFQ_val, ↓resFQ_unit, ↓resFQ_enter, ↓retFQ_some, Nat.reduceEqDiff, reduceIte, Nat.reduceAdd, Nat.reduceMul, Nat.reduceSub, reduceCtorEq, Nat.reduceLeDiff, f0_7, f2_7, f3_7, f4_7, f5_7, f66_7, t10, t12, t14, t16, t26, t27, c10, hf, q14, hz, h2f, q12, q26a, q26b, ra1, ra2, rb1, rb2]
                refine hK _ _ ?_
                clear hK K
                refine W.forget (fun e10 he10 => ?_)
                have f0_10 := congrArg (fun q => Env.get q 0) he10
                simp only [go_sem, Nat.reduceEqDiff, reduceIte, f0_7] at f0_10
                have f2_10 := congrArg (fun q => Env.get q 2) he10
                simp only [go_sem, Nat.reduceEqDiff, reduceIte, f2_7] at f2_10
                have f3_10 := congrArg (fun q => Env.get q 3) he10
                simp only [go_sem, Nat.reduceEqDiff, reduceIte, f3_7] at f3_10
                have f4_10 := congrArg (fun q => Env.get q 4) he10
                simp only [go_sem, Nat.reduceEqDiff, reduceIte, f4_7] at f4_10
                have f5_10 := congrArg (fun q => Env.get q 5) he10
                simp only [go_sem, Nat.reduceEqDiff, reduceIte, f5_7] at f5_10
                have f6_10 := congrArg (fun q => Env.get q 6) he10
                simp only [go_sem, Nat.reduceEqDiff, reduceIte] at f6_10
                have f7_10 := congrArg (fun q => Env.get q 7) he10
                simp only [go_sem, Nat.reduceEqDiff, reduceIte] at f7_10
                clear he10 f0_7 f2_7 f3_7 f4_7 f5_7 f66_7
                refine W.thenN ?_
                refine W.seq ?_
                refine W.region (fun K hK => ?_)
                simp (config := { maxSteps := 10000000 }) only [go_sem, ↓forkQ_true, ↓forkQ_false, ↓guardQ_some, ↓resQ_val, ↓resQ_unit, ↓resQ_enter, ↓retQ_some, ↓resFQ_val, ↓resFQ_unit, ↓resFQ_enter, ↓retFQ_some, Nat.reduceEqDiff, reduceIte, Nat.reduceAdd, Nat.reduceMul, Nat.reduceSub, reduceCtorEq, Nat.reduceLeDiff, f0_10, f2_10, f3_10, f4_10, f5_10, f6_10, f7_10, t10, t12, t14, t16, t26, t27, c10, hf, q14, hz, h2f, q12, q26a, q26b, ra1, ra2, rb1, rb2]
                refine hK _ _ ?_
                clear hK K
                refine W.forget (fun e11 he11 => ?_)
                refine W.forgetH (fun k7 hk11 => ?_)
                have t7 : Tw h k7 n1 d1 n2 d2 (-1099511627776, 1) (1099511627776, 1) := by rw [hk11]; exact ⟨((((((((Ext.low h).alloc _).alloc _).set (Nat.le_refl _) _).set (Nat.le_succ _) _).alloc _).alloc _).set (by first | omega | (show h.next ≤ h.next + 1 + 1; omega)) _).set (by first | omega | (show h.next ≤ h.next + 1 + 1 + 1; omega)) _, Nat.le_refl _, by simp only [go_sem, ↓forkQ_true, ↓forkQ_false, ↓guardQ_some, ↓resQ_val, ↓resQ_unit, ↓resQ_enter, ↓retQ_some, ↓resFQ_val, ↓resFQ_unit, ↓resFQ_enter, ↓retFQ_some, Nat.reduceEqDiff, reduceIte, Nat.reduceAdd, Nat.reduceMul, Nat.reduceSub, reduceCtorEq, Nat.reduceLeDiff], by simp only [go_sem, ↓forkQ_true, ↓forkQ_false, ↓guardQ_some, ↓resQ_val, ↓resQ_unit, ↓resQ_enter, ↓retQ_some, ↓resFQ_val, ↓resFQ_unit, ↓resFQ_enter, ↓retFQ_some, Nat.reduceEqDiff, reduceIte, Nat.reduceAdd, Nat.reduceMul, Nat.reduceSub, reduceCtorEq, Nat.reduceLeDiff], by simp only [go_sem, ↓forkQ_true, ↓forkQ_false, ↓guardQ_some, ↓resQ_val, ↓resQ_unit, ↓resQ_enter, ↓retQ_some, ↓resFQ_val, ↓resFQ_unit, ↓resFQ_enter, ↓retFQ_some, Nat.reduceEqDiff, reduceIte, Nat.reduceAdd, Nat.reduceMul, Nat.reduceSub, reduceCtorEq, Nat.reduceLeDiff], by simp only [go_sem, ↓forkQ_true, ↓forkQ_false, ↓guardQ_some, ↓resQ_val, ↓resQ_unit, ↓resQ_enter, ↓retQ_some, ↓resFQ_val, ↓resFQ_unit, ↓resFQ_enter, ↓retFQ_some, Nat.reduceEqDiff, reduceIte, Nat.reduceAdd, Nat.reduceMul, Nat.reduceSub, reduceCtorEq, Nat.reduceLeDiff], by decide, by decide⟩
                clear hk11
                have f0_11 := congrArg (fun q => Env.get q 0) he11
                simp only [go_sem, Nat.reduceEqDiff, reduceIte, f0_10] at f0_11
                have f2_11 := congrArg (fun q => Env.get q 2) he11
                simp only [go_sem, Nat.reduceEqDiff, reduceIte, f2_10] at f2_11
                have f3_11 := congrArg (fun q => Env.get q 3) he11
                simp only [go_sem, Nat.reduceEqDiff, reduceIte, f3_10] at f3_11
                have f4_11 := congrArg (fun q => Env.get q 4) he11
                simp only [go_sem, Nat.reduceEqDiff, reduceIte, f4_10] at f4_11
                have f5_11 := congrArg (fun q => Env.get q 5) he11
                simp only [go_sem, Nat.reduceEqDiff, reduceIte, f5_10] at f5_11
                have f6_11 := congrArg (fun q => Env.get q 6) he11
                simp only [go_sem, Nat.reduceEqDiff, reduceIte, f6_10] at f6_11
                have f7_11 := congrArg (fun q => Env.get q 7) he11
                simp only [go_sem, Nat.reduceEqDiff, reduceIte, f7_10] at f7_11
                have f8_11 := congrArg (fun q => Env.get q 8) he11
                simp only [go_sem, Nat.reduceEqDiff, reduceIte] at f8_11
                have f9_11 := congrArg (fun q => Env.get q 9) he11
                simp only [go_sem, Nat.reduceEqDiff, reduceIte] at f9_11
                clear he11 f0_10 f2_10 f3_10 f4_10 f5_10 f6_10 f7_10
                refine W.thenN ?_
                refine W.seq ?_
                refine W.seq ?_
                refine W.region (fun K hK => ?_)
                simp (config := { maxSteps := 10000000 }) only [go_sem, ↓forkQ_true, ↓forkQ_false, ↓guardQ_some, ↓resQ_val, ↓resQ_unit, ↓resQ_enter, ↓retQ_some, ↓resFQ_val, ↓resFQ_unit, ↓resFQ_enter, ↓retFQ_some, Nat.reduceEqDiff, reduceIte, Nat.reduceAdd, Nat.reduceMul, Nat.reduceSub, reduceCtorEq, Nat.reduceLeDiff, f0_11, f2_11, f3_11, f4_11, f5_11, f6_11, f7_11, f8_11, f9_11, t10, t12, t14, t16, t26, t27, c10, hf, q14, hz, h2f, q12, q26a, q26b, ra1, ra2, rb1, rb2]
                refine hK _ _ ?_
                clear hK K
                refine W.forget (fun e12 he12 => ?_)
                have f0_12 := congrArg (fun q => Env.get q 0) he12
                simp only [go_sem, Nat.reduceEqDiff, reduceIte, f0_11] at f0_12
                have f2_12 := congrArg (fun q => Env.get q 2) he12
                simp only [go_sem, Nat.reduceEqDiff, reduceIte, f2_11] at f2_12
                have f3_12 := congrArg (fun q => Env.get q 3) he12
                simp only [go_sem, Nat.reduceEqDiff, reduceIte, f3_11] at f3_12
                have f4_12 := congrArg (fun q => Env.get q 4) he12
                simp only [go_sem, Nat.reduceEqDiff, reduceIte, f4_11] at f4_12
                have f5_12 := congrArg (fun q => Env.get q 5) he12
                simp only [go_sem, Nat.reduceEqDiff, reduceIte, f5_11] at f5_12
                have f6_12 := congrArg (fun q => Env.get q 6) he12
                simp only [go_sem, Nat.reduceEqDiff, reduceIte, f6_11] at f6_12
                have f7_12 := congrArg (fun q => Env.get q 7) he12
                simp only [go_sem, Nat.reduceEqDiff, reduceIte, f7_11] at f7_12
                have f8_12 := congrArg (fun q => Env.get q 8) he12
                simp only [go_sem, Nat.reduceEqDiff, reduceIte, f8_11] at f8_12
                have f9_12 := congrArg (fun q => Env.get q 9) he12
                simp only [go_sem, Nat.reduceEqDiff, reduceIte, f9_11] at f9_12
                have f10_12 := congrArg (fun q => Env.get q 10) he12
                simp only [go_sem, Nat.reduceEqDiff, reduceIte] at f10_12
                clear he12 f0_11 f2_11 f3_11 f4_11 f5_11 f6_11 f7_11 f8_11 f9_11
                refine W.thenN ?_
                refine W.block ?_
                refine wq_rounds (fun i => l.length - i) (I7 l a c h 0 n1 d1 n2 d2 (hitS n1 d1) (hitS n2 d2)) ?_ 0 _ _ ?_
                · intro i e13 k1 hi
                  have f0_13 := hi.e0
                  have f3_13 := hi.e3
                  have f4_13 := hi.e4
                  have f5_13 := hi.e5
                  have f6_13 := hi.e6
                  have f7_13 := hi.e7
                  have f8_13 := hi.e8
                  have f9_13 := hi.e9
                  have f10_13 := hi.e10
                  have ex := hi.t.ex
                  have hle := hi.le
                  have hadd : wrapF .i64 ((i : Int) + 1) = ((i + 1 : Nat) : Int) := by rw [w64_in _ (by omega)]; omega
                  refine W.seq ?_
                  refine W.seq ?_
                  refine W.region (fun K hK => ?_)
                  simp (config := { maxSteps := 10000000 }) only [go_sem, ↓forkQ_true, ↓forkQ_false, ↓guardQ_some, ↓resQ_val, ↓resQ_unit, ↓resQ_enter, ↓retQ_some, ↓resFQ_val, ↓resFQ_unit, ↓resFQ_enter, ↓retFQ_some, Nat.reduceEqDiff, reduceIte, Nat.reduceAdd, Nat.reduceMul, Nat.reduceSub, reduceCtorEq, Nat.reduceLeDiff, f0_13, f3_13, f4_13, f5_13, f6_13, f7_13, f8_13, f9_13, f10_13, t10, t12, t14, t16, t26, t27, hadd]
                  refine hK _ _ ?_
                  clear hK K
                  refine W.forget (fun e14 he14 => ?_)
                  have f0_14 := congrArg (fun q => Env.get q 0) he14
                  simp only [go_sem, Nat.reduceEqDiff, reduceIte, f0_13] at f0_14
                  have f3_14 := congrArg (fun q => Env.get q 3) he14
                  simp only [go_sem, Nat.reduceEqDiff, reduceIte, f3_13] at f3_14
                  have f4_14 := congrArg (fun q => Env.get q 4) he14
                  simp only [go_sem, Nat.reduceEqDiff, reduceIte, f4_13] at f4_14
                  have f5_14 := congrArg (fun q => Env.get q 5) he14
                  simp only [go_sem, Nat.reduceEqDiff, reduceIte, f5_13] at f5_14
                  have f6_14 := congrArg (fun q => Env.get q 6) he14
                  simp only [go_sem, Nat.reduceEqDiff, reduceIte, f6_13] at f6_14
                  have f7_14 := congrArg (fun q => Env.get q 7) he14
                  simp only [go_sem, Nat.reduceEqDiff, reduceIte, f7_13] at f7_14
                  have f8_14 := congrArg (fun q => Env.get q 8) he14
                  simp only [go_sem, Nat.reduceEqDiff, reduceIte, f8_13] at f8_14
                  have f9_14 := congrArg (fun q => Env.get q 9) he14
                  simp only [go_sem, Nat.reduceEqDiff, reduceIte, f9_13] at f9_14
                  have f10_14 := congrArg (fun q => Env.get q 10) he14
                  simp only [go_sem, Nat.reduceEqDiff, reduceIte, f10_13] at f10_14
                  have f72_14 := congrArg (fun q => Env.get q 72) he14
                  simp only [go_sem, Nat.reduceEqDiff, reduceIte] at f72_14
                  clear he14 f0_13 f3_13 f4_13 f5_13 f6_13 f7_13 f8_13 f9_13 f10_13
                  refine W.thenN ?_
                  refine W.cond f72_14 (fun hc15 => ?_) (fun hc15 => ?_)
                  · first
                    | (cases hc15; done)
                    | (exfalso; simp only [decide_eq_true_eq, decide_eq_false_iff_not, Bool.not_eq_true', Bool.not_eq_false', Bool.not_eq_eq_eq_not, Bool.not_true, Bool.not_false] at hc15; omega)
                    | (skip
                       try simp only [decide_eq_true_eq, decide_eq_false_iff_not, Bool.not_eq_true', Bool.not_eq_false', Bool.not_eq_eq_eq_not, Bool.not_true, Bool.not_false] at hc15
                       refine W.skip ?_
                       refine W.thenN ?_
                       refine W.seq ?_
                       refine W.block ?_
                       refine W.seq ?_
                       refine W.region (fun K hK => ?_)
                       simp (config := { maxSteps := 10000000 }) only [go_sem, ↓forkQ_true, ↓forkQ_false, ↓guardQ_some, ↓resQ_val, ↓resQ_unit, ↓resQ_enter, ↓retQ_some, ↓resFQ_val, ↓resFQ_unit, ↓resFQ_enter, ↓retFQ_some, Nat.reduceEqDiff, reduceIte, Nat.reduceAdd, Nat.reduceMul, Nat.reduceSub, reduceCtorEq, Nat.reduceLeDiff, f0_14, f3_14, f4_14, f5_14, f6_14, f7_14, f8_14, f9_14, f10_14, f72_14, t10, t12, t14, t16, t26, t27, hadd]
                       refine hK _ _ ?_
                       clear hK K
                       refine W.forget (fun e16 he16 => ?_)
                       have f0_16 := congrArg (fun q => Env.get q 0) he16
                       simp only [go_sem, Nat.reduceEqDiff, reduceIte, f0_14] at f0_16
                       have f3_16 := congrArg (fun q => Env.get q 3) he16
                       simp only [go_sem, Nat.reduceEqDiff, reduceIte, f3_14] at f3_16
                       have f4_16 := congrArg (fun q => Env.get q 4) he16
                       simp only [go_sem, Nat.reduceEqDiff, reduceIte, f4_14] at f4_16
                       have f5_16 := congrArg (fun q => Env.get q 5) he16
                       simp only [go_sem, Nat.reduceEqDiff, reduceIte, f5_14] at f5_16
                       have f6_16 := congrArg (fun q => Env.get q 6) he16
                       simp only [go_sem, Nat.reduceEqDiff, reduceIte, f6_14] at f6_16
                       have f7_16 := congrArg (fun q => Env.get q 7) he16
                       simp only [go_sem, Nat.reduceEqDiff, reduceIte, f7_14] at f7_16
                       have f8_16 := congrArg (fun q => Env.get q 8) he16
                       simp only [go_sem, Nat.reduceEqDiff, reduceIte, f8_14] at f8_16
                       have f9_16 := congrArg (fun q => Env.get q 9) he16
                       simp only [go_sem, Nat.reduceEqDiff, reduceIte, f9_14] at f9_16
                       have f10_16 := congrArg (fun q => Env.get q 10) he16
                       simp only [go_sem, Nat.reduceEqDiff, reduceIte, f10_14] at f10_16
                       have f11_16 := congrArg (fun q => Env.get q 11) he16
                       simp only [go_sem, Nat.reduceEqDiff, reduceIte] at f11_16
                       clear he16 f0_14 f3_14 f4_14 f5_14 f6_14 f7_14 f8_14 f9_14 f10_14 f72_14
                       refine W.thenN ?_
                       refine W.block ?_
                       refine wq_rounds (fun j => l.length - j) (J7 l a c h 0 n1 d1 n2 d2 (hitS n1 d1) (hitS n2 d2) i) ?_ (i + 1) _ _ ?_
                       · intro j e17 k2 hj
                         have f0_17 := hj.e0
                         have f3_17 := hj.e3
                         have f4_17 := hj.e4
                         have f5_17 := hj.e5
                         have f6_17 := hj.e6
                         have f7_17 := hj.e7
                         have f8_17 := hj.e8
                         have f9_17 := hj.e9
                         have f10_17 := hj.e10
                         have f11_17 := hj.e11
                         have exj := hj.t.ex
                         have hlej := hj.le
                         have hltj := hj.lt
                         have haddj : wrapF .i64 ((j : Int) + 1) = ((j + 1 : Nat) : Int) := by rw [w64_in _ (by omega)]; omega
                         refine W.seq ?_
                         refine W.seq ?_
                         refine W.region (fun K hK => ?_)
                         simp (config := { maxSteps := 10000000 }) only [go_sem, ↓forkQ_true, ↓forkQ_false, ↓guardQ_some, ↓resQ_val, ↓resQ_unit, ↓resQ_enter, ↓retQ_some, ↓resFQ_val, ↓resFQ_unit, ↓resFQ_enter, ↓retFQ_some, Nat.reduceEqDiff, reduceIte, Nat.reduceAdd, Nat.reduceMul, Nat.reduceSub, reduceCtorEq, Nat.reduceLeDiff, f0_17, f3_17, f4_17, f5_17, f6_17, f7_17, f8_17, f9_17, f10_17, f11_17, t10, t12, t14, t16, t26, t27, hadd, haddj]
                         refine hK _ _ ?_
                         clear hK K
                         refine W.forget (fun e18 he18 => ?_)
                         have f0_18 := congrArg (fun q => Env.get q 0) he18
                         simp only [go_sem, Nat.reduceEqDiff, reduceIte, f0_17] at f0_18
                         have f3_18 := congrArg (fun q => Env.get q 3) he18
                         simp only [go_sem, Nat.reduceEqDiff, reduceIte, f3_17] at f3_18
                         have f4_18 := congrArg (fun q => Env.get q 4) he18
                         simp only [go_sem, Nat.reduceEqDiff, reduceIte, f4_17] at f4_18
                         have f5_18 := congrArg (fun q => Env.get q 5) he18
                         simp only [go_sem, Nat.reduceEqDiff, reduceIte, f5_17] at f5_18
                         have f6_18 := congrArg (fun q => Env.get q 6) he18
                         simp only [go_sem, Nat.reduceEqDiff, reduceIte, f6_17] at f6_18
                         have f7_18 := congrArg (fun q => Env.get q 7) he18
                         simp only [go_sem, Nat.reduceEqDiff, reduceIte, f7_17] at f7_18
                         have f8_18 := congrArg (fun q => Env.get q 8) he18
                         simp only [go_sem, Nat.reduceEqDiff, reduceIte, f8_17] at f8_18
                         have f9_18 := congrArg (fun q => Env.get q 9) he18
                         simp only [go_sem, Nat.reduceEqDiff, reduceIte, f9_17] at f9_18
                         have f10_18 := congrArg (fun q => Env.get q 10) he18
                         simp only [go_sem, Nat.reduceEqDiff, reduceIte, f10_17] at f10_18
                         have f11_18 := congrArg (fun q => Env.get q 11) he18
                         simp only [go_sem, Nat.reduceEqDiff, reduceIte, f11_17] at f11_18
                         have f80_18 := congrArg (fun q => Env.get q 80) he18
                         simp only [go_sem, Nat.reduceEqDiff, reduceIte] at f80_18
                         clear he18 f0_17 f3_17 f4_17 f5_17 f6_17 f7_17 f8_17 f9_17 f10_17 f11_17
                         refine W.thenN ?_
                         refine W.cond f80_18 (fun hc19 => ?_) (fun hc19 => ?_)
                         · first
                           | (cases hc19; done)
                           | (exfalso; simp only [decide_eq_true_eq, decide_eq_false_iff_not, Bool.not_eq_true', Bool.not_eq_false', Bool.not_eq_eq_eq_not, Bool.not_true, Bool.not_false] at hc19; omega)
                           | (skip
                              try simp only [decide_eq_true_eq, decide_eq_false_iff_not, Bool.not_eq_true', Bool.not_eq_false', Bool.not_eq_eq_eq_not, Bool.not_true, Bool.not_false] at hc19
                              refine W.skip ?_
                              refine W.thenN ?_
                              refine W.seq ?_
                              refine W.block ?_
                              refine W.seq ?_
                              refine W.draw dr7_14 (fun K hK => ?_)
                              have hjn : j < l.length := by omega
                              have hin : i < l.length := by omega
                              have iri := inRange_nat hin
                              have irj := inRange_nat hjn
                              obtain ⟨b, blk, ext, rfl, hb, hcs, hbl⟩ := hg (ne_of_lt hin)
                              have hb' := (exj.get b hbl).trans hb
                              have ci0 := gcell0 (ext := ext) hin
                              have ci1 := gcell1 (ext := ext) hin
                              have ci2 := gcell2 (ext := ext) hin
                              have cj0 := gcell0 (ext := ext) hjn
                              have cj1 := gcell1 (ext := ext) hjn
                              have cj2 := gcell2 (ext := ext) hjn
                              have ri := o.rng i hin
                              have rj := o.rng j hjn
                              have hX := o.lt i j hltj hjn
                              have s0 : wrapF .i64 ((gt l j).x - (gt l i).x) = (gt l j).x - (gt l i).x := w64_in _ (by omega)
                              have s1 : wrapF .i64 ((gt l j).lo - (gt l i).hi) = (gt l j).lo - (gt l i).hi := w64_in _ (by omega)
                              have s2 : wrapF .i64 ((gt l j).hi - (gt l i).lo) = (gt l j).hi - (gt l i).lo := w64_in _ (by omega)
                              have hbn := exj.ne hbl
                              have hbn' := exj.ne' hbl
                              have hbn1 : (b = k2.next + 1) = False := eq_false (by have := exj.next; omega)
                              have hbn1' : (k2.next + 1 = b) = False := eq_false (by have := exj.next; omega)
                              have hf' := exj.fact'
                              have hw := exj.wr
                              have hD : ((gt l j).x - (gt l i).x) ≠ 0 := by omega
                              have nx2 := hj.t.nx
                              simp (config := { maxSteps := 10000000 }) only [go_sem, ↓forkQ_true, ↓forkQ_false, ↓guardQ_some, ↓resQ_val, ↓resQ_unit, ↓resQ_enter, ↓retQ_some, ↓resFQ_val, ↓resFQ_unit, ↓resFQ_enter, ↓retFQ_some, Nat.reduceEqDiff, reduceIte, Nat.reduceAdd, Nat.reduceMul, Nat.reduceSub, reduceCtorEq, Nat.reduceLeDiff, f0_18, f3_18, f4_18, f5_18, f6_18, f7_18, f8_18, f9_18, f10_18, f11_18, f80_18, t10, t12, t14, t16, t26, t27, hadd, haddj, iri, irj, hb', hcs, ci0, ci1, ci2, cj0, cj1, cj2, s0, s1, s2, hbn, hbn', hbn1, hbn1', hf', hw]
                              refine hK _ _ ?_
                              clear hK K
                              refine W.forget (fun e20 he20 => ?_)
                              have f0_20 := congrArg (fun q => Env.get q 0) he20
                              simp only [go_sem, Nat.reduceEqDiff, reduceIte, f0_18] at f0_20
                              have f3_20 := congrArg (fun q => Env.get q 3) he20
                              simp only [go_sem, Nat.reduceEqDiff, reduceIte, f3_18] at f3_20
                              have f4_20 := congrArg (fun q => Env.get q 4) he20
                              simp only [go_sem, Nat.reduceEqDiff, reduceIte, f4_18] at f4_20
                              have f5_20 := congrArg (fun q => Env.get q 5) he20
                              simp only [go_sem, Nat.reduceEqDiff, reduceIte, f5_18] at f5_20
                              have f6_20 := congrArg (fun q => Env.get q 6) he20
                              simp only [go_sem, Nat.reduceEqDiff, reduceIte, f6_18] at f6_20
                              have f7_20 := congrArg (fun q => Env.get q 7) he20
                              simp only [go_sem, Nat.reduceEqDiff, reduceIte, f7_18] at f7_20
                              have f8_20 := congrArg (fun q => Env.get q 8) he20
                              simp only [go_sem, Nat.reduceEqDiff, reduceIte, f8_18] at f8_20
                              have f9_20 := congrArg (fun q => Env.get q 9) he20
                              simp only [go_sem, Nat.reduceEqDiff, reduceIte, f9_18] at f9_20
                              have f10_20 := congrArg (fun q => Env.get q 10) he20
                              simp only [go_sem, Nat.reduceEqDiff, reduceIte, f10_18] at f10_20
                              have f11_20 := congrArg (fun q => Env.get q 11) he20
                              simp only [go_sem, Nat.reduceEqDiff, reduceIte, f11_18] at f11_20
                              have f12_20 := congrArg (fun q => Env.get q 12) he20
                              simp only [go_sem, Nat.reduceEqDiff, reduceIte] at f12_20
                              clear he20 f0_18 f3_18 f4_18 f5_18 f6_18 f7_18 f8_18 f9_18 f10_18 f11_18 f80_18
                              refine W.thenN ?_
                              refine W.seq ?_
                              refine W.drawP _ dr7_15 (fun K hK => ?_)
                              simp (config := { maxSteps := 10000000 }) only [go_sem, ↓forkQ_true, ↓forkQ_false, ↓guardQ_some, ↓resQ_val, ↓resQ_unit, ↓resQ_enter, ↓retQ_some, ↓resFQ_val, ↓resFQ_unit, ↓resFQ_enter, ↓retFQ_some, Nat.reduceEqDiff, reduceIte, Nat.reduceAdd, Nat.reduceMul, Nat.reduceSub, reduceCtorEq, Nat.reduceLeDiff, f0_20, f3_20, f4_20, f5_20, f6_20, f7_20, f8_20, f9_20, f10_20, f11_20, f12_20, t10, t12, t14, t16, t26, t27, hadd, haddj, iri, irj, hb', hcs, ci0, ci1, ci2, cj0, cj1, cj2, s0, s1, s2, hbn, hbn', hbn1, hbn1', hf', hw]
                              refine hK _ _ _ (by simp only [go_sem, ↓forkQ_true, ↓forkQ_false, ↓guardQ_some, ↓resQ_val, ↓resQ_unit, ↓resQ_enter, ↓retQ_some, ↓resFQ_val, ↓resFQ_unit, ↓resFQ_enter, ↓retFQ_some, Nat.reduceEqDiff, reduceIte, Nat.reduceAdd, Nat.reduceMul, Nat.reduceSub, reduceCtorEq, Nat.reduceLeDiff, hbn, hbn', hbn1, hbn1']) ?_
                              clear hK K
                              refine W.forget (fun e21 he21 => ?_)
                              refine W.forgetH (fun k9 hk21 => ?_)
                              have t9 : Tw h k9 n1 d1 n2 d2 (lstF (outr (rlP l) l.length i ++ inn (rlP l) i j)) (grtF (outr (rgP l) l.length i ++ inn (rgP l) i j)) := hj.t.grow (by rw [hk21]; exact (((exj.alloc _).alloc _).set exj.next _).set (Nat.le_succ_of_le exj.next) _) (by rw [hk21]; show k2.next ≤ k2.next + 1 + 1; omega) (fun q hq => by rw [hk21, Heap.get_set_ne _ _ (by omega), Heap.get_set_ne _ _ (by omega), Heap.get_alloc_ne _ _ (by show q ≠ k2.next + 1; omega), Heap.get_alloc_ne _ _ (by omega)])
                              have g13 : k9.get k2.next = some ⟨[.int .i64 ((gt l j).lo - (gt l i).hi), .int .i64 ((gt l j).x - (gt l i).x)], true, false, none⟩ := by rw [hk21, Heap.get_set_ne _ _ (by omega)]; exact Heap.get_set_same _ _ _
                              have g14 : k9.get (k2.next + 1) = some ⟨[.int .i64 ((gt l j).hi - (gt l i).lo), .int .i64 ((gt l j).x - (gt l i).x)], true, false, none⟩ := by rw [hk21]; exact Heap.get_set_same _ _ _
                              clear hk21
                              have f0_21 := congrArg (fun q => Env.get q 0) he21
                              simp only [go_sem, Nat.reduceEqDiff, reduceIte, f0_20] at f0_21
                              have f3_21 := congrArg (fun q => Env.get q 3) he21
                              simp only [go_sem, Nat.reduceEqDiff, reduceIte, f3_20] at f3_21
                              have f4_21 := congrArg (fun q => Env.get q 4) he21
                              simp only [go_sem, Nat.reduceEqDiff, reduceIte, f4_20] at f4_21
                              have f5_21 := congrArg (fun q => Env.get q 5) he21
                              simp only [go_sem, Nat.reduceEqDiff, reduceIte, f5_20] at f5_21
                              have f6_21 := congrArg (fun q => Env.get q 6) he21
                              simp only [go_sem, Nat.reduceEqDiff, reduceIte, f6_20] at f6_21
                              have f7_21 := congrArg (fun q => Env.get q 7) he21
                              simp only [go_sem, Nat.reduceEqDiff, reduceIte, f7_20] at f7_21
                              have f8_21 := congrArg (fun q => Env.get q 8) he21
                              simp only [go_sem, Nat.reduceEqDiff, reduceIte, f8_20] at f8_21
                              have f9_21 := congrArg (fun q => Env.get q 9) he21
                              simp only [go_sem, Nat.reduceEqDiff, reduceIte, f9_20] at f9_21
                              have f10_21 := congrArg (fun q => Env.get q 10) he21
                              simp only [go_sem, Nat.reduceEqDiff, reduceIte, f10_20] at f10_21
                              have f11_21 := congrArg (fun q => Env.get q 11) he21
                              simp only [go_sem, Nat.reduceEqDiff, reduceIte, f11_20] at f11_21
                              have f12_21 := congrArg (fun q => Env.get q 12) he21
                              simp only [go_sem, Nat.reduceEqDiff, reduceIte, f12_20] at f12_21
                              have f13_21 := congrArg (fun q => Env.get q 13) he21
                              simp only [go_sem, Nat.reduceEqDiff, reduceIte] at f13_21
                              have f14_21 := congrArg (fun q => Env.get q 14) he21
                              simp only [go_sem, Nat.reduceEqDiff, reduceIte] at f14_21
                              clear he21 f0_20 f3_20 f4_20 f5_20 f6_20 f7_20 f8_20 f9_20 f10_20 f11_20 f12_20
                              refine W.thenN ?_
                              refine W.seq ?_
                              refine W.seq ?_
                              refine W.region (fun K hK => ?_)
                              have gl := t9.gl
                              have q27 := c27 (lstF (outr (rlP l) l.length i ++ inn (rlP l) i j)).1 _ ((gt l j).lo - (gt l i).hi) _ t9.dp hD
                              simp (config := { maxSteps := 10000000 }) only [go_sem, ↓forkQ_true, ↓forkQ_false, ↓guardQ_some, ↓resQ_val, ↓resQ_unit, ↓resQ_enter, ↓retQ_some, ↓resFQ_val, ↓resFQ_unit, ↓resFQ_enter, ↓retFQ_some, Nat.reduceEqDiff, reduceIte, Nat.reduceAdd, Nat.reduceMul, Nat.reduceSub, reduceCtorEq, Nat.reduceLeDiff, f0_21, f3_21, f4_21, f5_21, f6_21, f7_21, f8_21, f9_21, f10_21, f11_21, f12_21, f13_21, f14_21, t10, t12, t14, t16, t26, t27, hadd, haddj, iri, irj, hb', hcs, ci0, ci1, ci2, cj0, cj1, cj2, s0, s1, s2, hbn, hbn', hbn1, hbn1', hf', hw, g13, gl, q27]
                              refine hK _ _ ?_
                              clear hK K
                              refine W.forget (fun e22 he22 => ?_)
                              have f0_22 := congrArg (fun q => Env.get q 0) he22
                              simp only [go_sem, Nat.reduceEqDiff, reduceIte, f0_21] at f0_22
                              have f3_22 := congrArg (fun q => Env.get q 3) he22
                              simp only [go_sem, Nat.reduceEqDiff, reduceIte, f3_21] at f3_22
                              have f4_22 := congrArg (fun q => Env.get q 4) he22
                              simp only [go_sem, Nat.reduceEqDiff, reduceIte, f4_21] at f4_22
                              have f5_22 := congrArg (fun q => Env.get q 5) he22
                              simp only [go_sem, Nat.reduceEqDiff, reduceIte, f5_21] at f5_22
                              have f6_22 := congrArg (fun q => Env.get q 6) he22
                              simp only [go_sem, Nat.reduceEqDiff, reduceIte, f6_21] at f6_22
                              have f7_22 := congrArg (fun q => Env.get q 7) he22
                              simp only [go_sem, Nat.reduceEqDiff, reduceIte, f7_21] at f7_22
                              have f8_22 := congrArg (fun q => Env.get q 8) he22
                              simp only [go_sem, Nat.reduceEqDiff, reduceIte, f8_21] at f8_22
                              have f9_22 := congrArg (fun q => Env.get q 9) he22
                              simp only [go_sem, Nat.reduceEqDiff, reduceIte, f9_21] at f9_22
                              have f10_22 := congrArg (fun q => Env.get q 10) he22
                              simp only [go_sem, Nat.reduceEqDiff, reduceIte, f10_21] at f10_22
                              have f11_22 := congrArg (fun q => Env.get q 11) he22
                              simp only [go_sem, Nat.reduceEqDiff, reduceIte, f11_21] at f11_22
                              have f12_22 := congrArg (fun q => Env.get q 12) he22
                              simp only [go_sem, Nat.reduceEqDiff, reduceIte, f12_21] at f12_22
                              have f13_22 := congrArg (fun q => Env.get q 13) he22
                              simp only [go_sem, Nat.reduceEqDiff, reduceIte, f13_21] at f13_22
                              have f14_22 := congrArg (fun q => Env.get q 14) he22
                              simp only [go_sem, Nat.reduceEqDiff, reduceIte, f14_21] at f14_22
                              have f122_22 := congrArg (fun q => Env.get q 122) he22
                              simp only [go_sem, Nat.reduceEqDiff, reduceIte] at f122_22
                              clear he22 f0_21 f3_21 f4_21 f5_21 f6_21 f7_21 f8_21 f9_21 f10_21 f11_21 f12_21 f13_21 f14_21
                              refine W.thenN ?_
                              refine W.join (M := (M7 l (some ⟨b, 0, none⟩) c h 0 n1 d1 n2 d2 (hitS n1 d1) (hitS n2 d2) i j k2.next ((outr (rlP l) l.length i ++ inn (rlP l) i j) ++ [rlP l i j]) (outr (rgP l) l.length i ++ inn (rgP l) i j))) ?_ (fun e23 k9 hm => ?_)
                              · skip
                                refine W.cond f122_22 (fun hc24 => ?_) (fun hc24 => ?_)
                                · first
                                  | (cases hc24; done)
                                  | (exfalso; simp only [decide_eq_true_eq, decide_eq_false_iff_not, Bool.not_eq_true', Bool.not_eq_false', Bool.not_eq_eq_eq_not, Bool.not_true, Bool.not_false] at hc24; omega)
                                  | (skip
                                     try simp only [decide_eq_true_eq, decide_eq_false_iff_not, Bool.not_eq_true', Bool.not_eq_false', Bool.not_eq_eq_eq_not, Bool.not_true, Bool.not_false] at hc24
                                     refine W.region (fun K hK => ?_)
                                     simp (config := { maxSteps := 10000000 }) only [go_sem, ↓forkQ_true, ↓forkQ_false, ↓guardQ_some, ↓resQ_val, ↓resQ_unit, ↓resQ_enter, ↓retQ_some, ↓resFQ_val, ↓resFQ_unit, ↓resFQ_enter, ↓retFQ_some, Nat.reduceEqDiff, reduceIte, Nat.reduceAdd, Nat.reduceMul, Nat.reduceSub, reduceCtorEq, Nat.reduceLeDiff, f0_22, f3_22, f4_22, f5_22, f6_22, f7_22, f8_22, f9_22, f10_22, f11_22, f12_22, f13_22, f14_22, f122_22, t10, t12, t14, t16, t26, t27, hadd, haddj, iri, irj, hb', hcs, ci0, ci1, ci2, cj0, cj1, cj2, s0, s1, s2, hbn, hbn', hbn1, hbn1', hf', hw, g13, gl, q27, g13, gl]
                                     refine hK _ _ ?_
                                     clear hK K
                                     refine W.forget (fun e25 he25 => ?_)
                                     refine W.forgetH (fun k17 hk25 => ?_)
                                     have t9 := t9.least (p := rlP l i j) hD ‹lessZ _ _ ((gt l j).lo - (gt l i).hi) ((gt l j).x - (gt l i).x) = true›
                                     rw [show (⟨[.int .i64 (rlP l i j).1, .int .i64 (rlP l i j).2], true, false, none⟩ : Blk) = ⟨[.int .i64 ((gt l j).lo - (gt l i).hi), .int .i64 ((gt l j).x - (gt l i).x)], true, false, none⟩ from rfl, ← hk25] at t9
                                     have g13 : k17.get k2.next = some ⟨[.int .i64 ((gt l j).lo - (gt l i).hi), .int .i64 ((gt l j).x - (gt l i).x)], true, false, none⟩ := by rw [hk25, Heap.get_set_ne _ _ (by omega)]; exact g13
                                     have g14 : k17.get (k2.next + 1) = some ⟨[.int .i64 ((gt l j).hi - (gt l i).lo), .int .i64 ((gt l j).x - (gt l i).x)], true, false, none⟩ := by rw [hk25, Heap.get_set_ne _ _ (by omega)]; exact g14
                                     clear hk25
                                     have f0_25 := congrArg (fun q => Env.get q 0) he25
                                     simp only [go_sem, Nat.reduceEqDiff, reduceIte, f0_22] at f0_25
                                     have f3_25 := congrArg (fun q => Env.get q 3) he25
                                     simp only [go_sem, Nat.reduceEqDiff, reduceIte, f3_22] at f3_25
                                     have f4_25 := congrArg (fun q => Env.get q 4) he25
                                     simp only [go_sem, Nat.reduceEqDiff, reduceIte, f4_22] at f4_25
                                     have f5_25 := congrArg (fun q => Env.get q 5) he25
                                     simp only [go_sem, Nat.reduceEqDiff, reduceIte, f5_22] at f5_25
                                     have f6_25 := congrArg (fun q => Env.get q 6) he25
                                     simp only [go_sem, Nat.reduceEqDiff, reduceIte, f6_22] at f6_25
                                     have f7_25 := congrArg (fun q => Env.get q 7) he25
                                     simp only [go_sem, Nat.reduceEqDiff, reduceIte, f7_22] at f7_25
                                     have f8_25 := congrArg (fun q => Env.get q 8) he25
                                     simp only [go_sem, Nat.reduceEqDiff, reduceIte, f8_22] at f8_25
                                     have f9_25 := congrArg (fun q => Env.get q 9) he25
                                     simp only [go_sem, Nat.reduceEqDiff, reduceIte, f9_22] at f9_25
                                     have f10_25 := congrArg (fun q => Env.get q 10) he25
                                     simp only [go_sem, Nat.reduceEqDiff, reduceIte, f10_22] at f10_25
                                     have f11_25 := congrArg (fun q => Env.get q 11) he25
                                     simp only [go_sem, Nat.reduceEqDiff, reduceIte, f11_22] at f11_25
                                     have f12_25 := congrArg (fun q => Env.get q 12) he25
                                     simp only [go_sem, Nat.reduceEqDiff, reduceIte, f12_22] at f12_25
                                     have f13_25 := congrArg (fun q => Env.get q 13) he25
                                     simp only [go_sem, Nat.reduceEqDiff, reduceIte, f13_22] at f13_25
                                     have f14_25 := congrArg (fun q => Env.get q 14) he25
                                     simp only [go_sem, Nat.reduceEqDiff, reduceIte, f14_22] at f14_25
                                     clear he25 f0_22 f3_22 f4_22 f5_22 f6_22 f7_22 f8_22 f9_22 f10_22 f11_22 f12_22 f13_22 f14_22 f122_22
                                     refine W.thenN ?_
                                     exact ⟨t9, g13, g14, f0_25, f3_25, f4_25, f5_25, f6_25, f7_25, f8_25, f9_25, f10_25, f11_25, f12_25, f13_25, f14_25⟩)
                                · first
                                  | (cases hc24; done)
                                  | (exfalso; simp only [decide_eq_true_eq, decide_eq_false_iff_not, Bool.not_eq_true', Bool.not_eq_false', Bool.not_eq_eq_eq_not, Bool.not_true, Bool.not_false] at hc24; omega)
                                  | (skip
                                     try simp only [decide_eq_true_eq, decide_eq_false_iff_not, Bool.not_eq_true', Bool.not_eq_false', Bool.not_eq_eq_eq_not, Bool.not_true, Bool.not_false] at hc24
                                     replace t9 := t9.least' (p := rlP l i j) ‹lessZ _ _ ((gt l j).lo - (gt l i).hi) ((gt l j).x - (gt l i).x) = false›
                                     refine W.skip ?_
                                     refine W.thenN ?_
                                     exact ⟨t9, g13, g14, f0_22, f3_22, f4_22, f5_22, f6_22, f7_22, f8_22, f9_22, f10_22, f11_22, f12_22, f13_22, f14_22⟩)
                              · skip
                                have f0_23 := hm.e0
                                have f3_23 := hm.e3
                                have f4_23 := hm.e4
                                have f5_23 := hm.e5
                                have f6_23 := hm.e6
                                have f7_23 := hm.e7
                                have f8_23 := hm.e8
                                have f9_23 := hm.e9
                                have f10_23 := hm.e10
                                have f11_23 := hm.e11
                                have f12_23 := hm.e12
                                have f13_23 := hm.e13
                                have f14_23 := hm.e14
                                have t9 := hm.t
                                have g13 := hm.g13
                                have g14 := hm.g14
                                clear f0_22 f3_22 f4_22 f5_22 f6_22 f7_22 f8_22 f9_22 f10_22 f11_22 f12_22 f13_22 f14_22 f122_22
                                refine W.seq ?_
                                refine W.seq ?_
                                refine W.region (fun K hK => ?_)
                                have gg := t9.gg
                                have q27 := c27 ((gt l j).hi - (gt l i).lo) _ (grtF (outr (rgP l) l.length i ++ inn (rgP l) i j)).1 _ hD t9.dq
                                simp (config := { maxSteps := 10000000 }) only [go_sem, ↓forkQ_true, ↓forkQ_false, ↓guardQ_some, ↓resQ_val, ↓resQ_unit, ↓resQ_enter, ↓retQ_some, ↓resFQ_val, ↓resFQ_unit, ↓resFQ_enter, ↓retFQ_some, Nat.reduceEqDiff, reduceIte, Nat.reduceAdd, Nat.reduceMul, Nat.reduceSub, reduceCtorEq, Nat.reduceLeDiff, f0_23, f3_23, f4_23, f5_23, f6_23, f7_23, f8_23, f9_23, f10_23, f11_23, f12_23, f13_23, f14_23, t10, t12, t14, t16, t26, t27, hadd, haddj, iri, irj, hb', hcs, ci0, ci1, ci2, cj0, cj1, cj2, s0, s1, s2, hbn, hbn', hbn1, hbn1', hf', hw, g13, gl, q27, g14, gg, q27]
                                refine hK _ _ ?_
                                clear hK K
                                refine W.forget (fun e26 he26 => ?_)
                                have f0_26 := congrArg (fun q => Env.get q 0) he26
                                simp only [go_sem, Nat.reduceEqDiff, reduceIte, f0_23] at f0_26
                                have f3_26 := congrArg (fun q => Env.get q 3) he26
                                simp only [go_sem, Nat.reduceEqDiff, reduceIte, f3_23] at f3_26
                                have f4_26 := congrArg (fun q => Env.get q 4) he26
                                simp only [go_sem, Nat.reduceEqDiff, reduceIte, f4_23] at f4_26
                                have f5_26 := congrArg (fun q => Env.get q 5) he26
                                simp only [go_sem, Nat.reduceEqDiff, reduceIte, f5_23] at f5_26
                                have f6_26 := congrArg (fun q => Env.get q 6) he26
                                simp only [go_sem, Nat.reduceEqDiff, reduceIte, f6_23] at f6_26
                                have f7_26 := congrArg (fun q => Env.get q 7) he26
                                simp only [go_sem, Nat.reduceEqDiff, reduceIte, f7_23] at f7_26
                                have f8_26 := congrArg (fun q => Env.get q 8) he26
                                simp only [go_sem, Nat.reduceEqDiff, reduceIte, f8_23] at f8_26
                                have f9_26 := congrArg (fun q => Env.get q 9) he26
                                simp only [go_sem, Nat.reduceEqDiff, reduceIte, f9_23] at f9_26
                                have f10_26 := congrArg (fun q => Env.get q 10) he26
                                simp only [go_sem, Nat.reduceEqDiff, reduceIte, f10_23] at f10_26
                                have f11_26 := congrArg (fun q => Env.get q 11) he26
                                simp only [go_sem, Nat.reduceEqDiff, reduceIte, f11_23] at f11_26
                                have f12_26 := congrArg (fun q => Env.get q 12) he26
                                simp only [go_sem, Nat.reduceEqDiff, reduceIte, f12_23] at f12_26
                                have f13_26 := congrArg (fun q => Env.get q 13) he26
                                simp only [go_sem, Nat.reduceEqDiff, reduceIte, f13_23] at f13_26
                                have f14_26 := congrArg (fun q => Env.get q 14) he26
                                simp only [go_sem, Nat.reduceEqDiff, reduceIte, f14_23] at f14_26
                                have f126_26 := congrArg (fun q => Env.get q 126) he26
                                simp only [go_sem, Nat.reduceEqDiff, reduceIte] at f126_26
                                clear he26 f0_23 f3_23 f4_23 f5_23 f6_23 f7_23 f8_23 f9_23 f10_23 f11_23 f12_23 f13_23 f14_23
                                refine W.thenN ?_
                                refine W.join (M := (M7 l (some ⟨b, 0, none⟩) c h 0 n1 d1 n2 d2 (hitS n1 d1) (hitS n2 d2) i j k2.next ((outr (rlP l) l.length i ++ inn (rlP l) i j) ++ [rlP l i j]) ((outr (rgP l) l.length i ++ inn (rgP l) i j) ++ [rgP l i j]))) ?_ (fun e27 k9 hm => ?_)
                                · skip
                                  refine W.cond f126_26 (fun hc28 => ?_) (fun hc28 => ?_)
                                  · first
                                    | (cases hc28; done)
                                    | (exfalso; simp only [decide_eq_true_eq, decide_eq_false_iff_not, Bool.not_eq_true', Bool.not_eq_false', Bool.not_eq_eq_eq_not, Bool.not_true, Bool.not_false] at hc28; omega)
                                    | (skip
                                       try simp only [decide_eq_true_eq, decide_eq_false_iff_not, Bool.not_eq_true', Bool.not_eq_false', Bool.not_eq_eq_eq_not, Bool.not_true, Bool.not_false] at hc28
                                       refine W.region (fun K hK => ?_)
                                       simp (config := { maxSteps := 10000000 }) only [go_sem, ↓forkQ_true, ↓forkQ_false, ↓guardQ_some, ↓resQ_val, ↓resQ_unit, ↓resQ_enter, ↓retQ_some, ↓resFQ_val, ↓resFQ_unit, ↓resFQ_enter, ↓retFQ_some, Nat.reduceEqDiff, reduceIte, Nat.reduceAdd, Nat.reduceMul, Nat.reduceSub, reduceCtorEq, Nat.reduceLeDiff, f0_26, f3_26, f4_26, f5_26, f6_26, f7_26, f8_26, f9_26, f10_26, f11_26, f12_26, f13_26, f14_26, f126_26, t10, t12, t14, t16, t26, t27, hadd, haddj, iri, irj, hb', hcs, ci0, ci1, ci2, cj0, cj1, cj2, s0, s1, s2, hbn, hbn', hbn1, hbn1', hf', hw, g13, gl, q27, g14, gg, q27, g14, gg]
                                       refine hK _ _ ?_
                                       clear hK K
                                       refine W.forget (fun e29 he29 => ?_)
                                       refine W.forgetH (fun k19 hk29 => ?_)
                                       have t9 := t9.most (p := rgP l i j) hD ‹lessZ ((gt l j).hi - (gt l i).lo) ((gt l j).x - (gt l i).x) _ _ = true›
                                       rw [show (⟨[.int .i64 (rgP l i j).1, .int .i64 (rgP l i j).2], true, false, none⟩ : Blk) = ⟨[.int .i64 ((gt l j).hi - (gt l i).lo), .int .i64 ((gt l j).x - (gt l i).x)], true, false, none⟩ from rfl, ← hk29] at t9
                                       have g13 : k19.get k2.next = some ⟨[.int .i64 ((gt l j).lo - (gt l i).hi), .int .i64 ((gt l j).x - (gt l i).x)], true, false, none⟩ := by rw [hk29, Heap.get_set_ne _ _ (by omega)]; exact g13
                                       have g14 : k19.get (k2.next + 1) = some ⟨[.int .i64 ((gt l j).hi - (gt l i).lo), .int .i64 ((gt l j).x - (gt l i).x)], true, false, none⟩ := by rw [hk29, Heap.get_set_ne _ _ (by omega)]; exact g14
                                       clear hk29
                                       have f0_29 := congrArg (fun q => Env.get q 0) he29
                                       simp only [go_sem, Nat.reduceEqDiff, reduceIte, f0_26] at f0_29
                                       have f3_29 := congrArg (fun q => Env.get q 3) he29
                                       simp only [go_sem, Nat.reduceEqDiff, reduceIte, f3_26] at f3_29
                                       have f4_29 := congrArg (fun q => Env.get q 4) he29
                                       simp only [go_sem, Nat.reduceEqDiff, reduceIte, f4_26] at f4_29
                                       have f5_29 := congrArg (fun q => Env.get q 5) he29
                                       simp only [go_sem, Nat.reduceEqDiff, reduceIte, f5_26] at f5_29
                                       have f6_29 := congrArg (fun q => Env.get q 6) he29
                                       simp only [go_sem, Nat.reduceEqDiff, reduceIte, f6_26] at f6_29
                                       have f7_29 := congrArg (fun q => Env.get q 7) he29
                                       simp only [go_sem, Nat.reduceEqDiff, reduceIte, f7_26] at f7_29
                                       have f8_29 := congrArg (fun q => Env.get q 8) he29
                                       simp only [go_sem, Nat.reduceEqDiff, reduceIte, f8_26] at f8_29
                                       have f9_29 := congrArg (fun q => Env.get q 9) he29
                                       simp only [go_sem, Nat.reduceEqDiff, reduceIte, f9_26] at f9_29
                                       have f10_29 := congrArg (fun q => Env.get q 10) he29
                                       simp only [go_sem, Nat.reduceEqDiff, reduceIte, f10_26] at f10_29
                                       have f11_29 := congrArg (fun q => Env.get q 11) he29
                                       simp only [go_sem, Nat.reduceEqDiff, reduceIte, f11_26] at f11_29
                                       have f12_29 := congrArg (fun q => Env.get q 12) he29
                                       simp only [go_sem, Nat.reduceEqDiff, reduceIte, f12_26] at f12_29
                                       have f13_29 := congrArg (fun q => Env.get q 13) he29
                                       simp only [go_sem, Nat.reduceEqDiff, reduceIte, f13_26] at f13_29
                                       have f14_29 := congrArg (fun q => Env.get q 14) he29
                                       simp only [go_sem, Nat.reduceEqDiff, reduceIte, f14_26] at f14_29
                                       clear he29 f0_26 f3_26 f4_26 f5_26 f6_26 f7_26 f8_26 f9_26 f10_26 f11_26 f12_26 f13_26 f14_26 f126_26
                                       refine W.thenN ?_
                                       exact ⟨t9, g13, g14, f0_29, f3_29, f4_29, f5_29, f6_29, f7_29, f8_29, f9_29, f10_29, f11_29, f12_29, f13_29, f14_29⟩)
                                  · first
                                    | (cases hc28; done)
                                    | (exfalso; simp only [decide_eq_true_eq, decide_eq_false_iff_not, Bool.not_eq_true', Bool.not_eq_false', Bool.not_eq_eq_eq_not, Bool.not_true, Bool.not_false] at hc28; omega)
                                    | (skip
                                       try simp only [decide_eq_true_eq, decide_eq_false_iff_not, Bool.not_eq_true', Bool.not_eq_false', Bool.not_eq_eq_eq_not, Bool.not_true, Bool.not_false] at hc28
                                       replace t9 := t9.most' (p := rgP l i j) ‹lessZ ((gt l j).hi - (gt l i).lo) ((gt l j).x - (gt l i).x) _ _ = false›
                                       refine W.skip ?_
                                       refine W.thenN ?_
                                       exact ⟨t9, g13, g14, f0_26, f3_26, f4_26, f5_26, f6_26, f7_26, f8_26, f9_26, f10_26, f11_26, f12_26, f13_26, f14_26⟩)
                                · skip
                                  have f0_27 := hm.e0
                                  have f3_27 := hm.e3
                                  have f4_27 := hm.e4
                                  have f5_27 := hm.e5
                                  have f6_27 := hm.e6
                                  have f7_27 := hm.e7
                                  have f8_27 := hm.e8
                                  have f9_27 := hm.e9
                                  have f10_27 := hm.e10
                                  have f11_27 := hm.e11
                                  have f12_27 := hm.e12
                                  have f13_27 := hm.e13
                                  have f14_27 := hm.e14
                                  have t9 := hm.t
                                  have g13 := hm.g13
                                  have g14 := hm.g14
                                  clear f0_26 f3_26 f4_26 f5_26 f6_26 f7_26 f8_26 f9_26 f10_26 f11_26 f12_26 f13_26 f14_26 f126_26
                                  refine W.seq ?_
                                  refine W.seq ?_
                                  refine W.region (fun K hK => ?_)
                                  simp (config := { maxSteps := 10000000 }) only [go_sem, ↓forkQ_true, ↓forkQ_false, ↓guardQ_some, ↓resQ_val, ↓resQ_unit, ↓resQ_enter, ↓retQ_some, ↓resFQ_val, ↓resFQ_unit, ↓resFQ_enter, ↓retFQ_some, Nat.reduceEqDiff, reduceIte, Nat.reduceAdd, Nat.reduceMul, Nat.reduceSub, reduceCtorEq, Nat.reduceLeDiff, f0_27, f3_27, f4_27, f5_27, f6_27, f7_27, f8_27, f9_27, f10_27, f11_27, f12_27, f13_27, f14_27, t10, t12, t14, t16, t26, t27, hadd, haddj, iri, irj, hb', hcs, ci0, ci1, ci2, cj0, cj1, cj2, s0, s1, s2, hbn, hbn', hbn1, hbn1', hf', hw, g13, gl, q27, g14, gg, q27]
                                  refine hK _ _ ?_
                                  clear hK K
                                  refine W.forget (fun e30 he30 => ?_)
                                  have f0_30 := congrArg (fun q => Env.get q 0) he30
                                  simp only [go_sem, Nat.reduceEqDiff, reduceIte, f0_27] at f0_30
                                  have f3_30 := congrArg (fun q => Env.get q 3) he30
                                  simp only [go_sem, Nat.reduceEqDiff, reduceIte, f3_27] at f3_30
                                  have f4_30 := congrArg (fun q => Env.get q 4) he30
                                  simp only [go_sem, Nat.reduceEqDiff, reduceIte, f4_27] at f4_30
                                  have f5_30 := congrArg (fun q => Env.get q 5) he30
                                  simp only [go_sem, Nat.reduceEqDiff, reduceIte, f5_27] at f5_30
                                  have f6_30 := congrArg (fun q => Env.get q 6) he30
                                  simp only [go_sem, Nat.reduceEqDiff, reduceIte, f6_27] at f6_30
                                  have f7_30 := congrArg (fun q => Env.get q 7) he30
                                  simp only [go_sem, Nat.reduceEqDiff, reduceIte, f7_27] at f7_30
                                  have f8_30 := congrArg (fun q => Env.get q 8) he30
                                  simp only [go_sem, Nat.reduceEqDiff, reduceIte, f8_27] at f8_30
                                  have f9_30 := congrArg (fun q => Env.get q 9) he30
                                  simp only [go_sem, Nat.reduceEqDiff, reduceIte, f9_27] at f9_30
                                  have f10_30 := congrArg (fun q => Env.get q 10) he30
                                  simp only [go_sem, Nat.reduceEqDiff, reduceIte, f10_27] at f10_30
                                  have f11_30 := congrArg (fun q => Env.get q 11) he30
                                  simp only [go_sem, Nat.reduceEqDiff, reduceIte, f11_27] at f11_30
                                  have f12_30 := congrArg (fun q => Env.get q 12) he30
                                  simp only [go_sem, Nat.reduceEqDiff, reduceIte, f12_27] at f12_30
                                  have f13_30 := congrArg (fun q => Env.get q 13) he30
                                  simp only [go_sem, Nat.reduceEqDiff, reduceIte, f13_27] at f13_30
                                  have f14_30 := congrArg (fun q => Env.get q 14) he30
                                  simp only [go_sem, Nat.reduceEqDiff, reduceIte, f14_27] at f14_30
                                  have f129_30 := congrArg (fun q => Env.get q 129) he30
                                  simp only [go_sem, Nat.reduceEqDiff, reduceIte] at f129_30
                                  clear he30 f0_27 f3_27 f4_27 f5_27 f6_27 f7_27 f8_27 f9_27 f10_27 f11_27 f12_27 f13_27 f14_27
                                  refine W.thenN ?_
                                  refine W.cond f129_30 (fun hc31 => ?_) (fun hc31 => ?_)
                                  · first
                                    | (cases hc31; done)
                                    | (exfalso; simp only [decide_eq_true_eq, decide_eq_false_iff_not, Bool.not_eq_true', Bool.not_eq_false', Bool.not_eq_eq_eq_not, Bool.not_true, Bool.not_false] at hc31; omega)
                                    | (skip
                                       try simp only [decide_eq_true_eq, decide_eq_false_iff_not, Bool.not_eq_true', Bool.not_eq_false', Bool.not_eq_eq_eq_not, Bool.not_true, Bool.not_false] at hc31
                                       refine W.exit ?_
                                       refine W.thenE ?_
                                       refine W.blockE ?_
                                       refine W.thenN ?_
                                       refine W.region (fun K hK => ?_)
                                       simp (config := { maxSteps := 10000000 }) only [go_sem, ↓forkQ_true, ↓forkQ_false, ↓guardQ_some, ↓resQ_val, ↓resQ_unit, ↓resQ_enter, ↓retQ_some, ↓resFQ_val, ↓resFQ_unit, ↓resFQ_enter, ↓retFQ_some, Nat.reduceEqDiff, reduceIte, Nat.reduceAdd, Nat.reduceMul, Nat.reduceSub, reduceCtorEq, Nat.reduceLeDiff, f0_30, f3_30, f4_30, f5_30, f6_30, f7_30, f8_30, f9_30, f10_30, f11_30, f12_30, f13_30, f14_30, f129_30, t10, t12, t14, t16, t26, t27, hadd, haddj, iri, irj, hb', hcs, ci0, ci1, ci2, cj0, cj1, cj2, s0, s1, s2, hbn, hbn', hbn1, hbn1', hf', hw, g13, gl, q27, g14, gg, q27]
                                       refine hK _ _ ?_
                                       clear hK K
                                       refine W.forget (fun e32 he32 => ?_)
                                       have f0_32 := congrArg (fun q => Env.get q 0) he32
                                       simp only [go_sem, Nat.reduceEqDiff, reduceIte, f0_30] at f0_32
                                       have f3_32 := congrArg (fun q => Env.get q 3) he32
                                       simp only [go_sem, Nat.reduceEqDiff, reduceIte, f3_30] at f3_32
                                       have f4_32 := congrArg (fun q => Env.get q 4) he32
                                       simp only [go_sem, Nat.reduceEqDiff, reduceIte, f4_30] at f4_32
                                       have f5_32 := congrArg (fun q => Env.get q 5) he32
                                       simp only [go_sem, Nat.reduceEqDiff, reduceIte, f5_30] at f5_32
                                       have f6_32 := congrArg (fun q => Env.get q 6) he32
                                       simp only [go_sem, Nat.reduceEqDiff, reduceIte, f6_30] at f6_32
                                       have f7_32 := congrArg (fun q => Env.get q 7) he32
                                       simp only [go_sem, Nat.reduceEqDiff, reduceIte, f7_30] at f7_32
                                       have f8_32 := congrArg (fun q => Env.get q 8) he32
                                       simp only [go_sem, Nat.reduceEqDiff, reduceIte, f8_30] at f8_32
                                       have f9_32 := congrArg (fun q => Env.get q 9) he32
                                       simp only [go_sem, Nat.reduceEqDiff, reduceIte, f9_30] at f9_32
                                       have f10_32 := congrArg (fun q => Env.get q 10) he32
                                       simp only [go_sem, Nat.reduceEqDiff, reduceIte, f10_30] at f10_32
                                       have f11_32 := congrArg (fun q => Env.get q 11) he32
                                       simp only [go_sem, Nat.reduceEqDiff, reduceIte, f11_30] at f11_32
                                       clear he32 f0_30 f3_30 f4_30 f5_30 f6_30 f7_30 f8_30 f9_30 f10_30 f11_30 f12_30 f13_30 f14_30 f129_30
                                       refine W.thenN ?_
                                       exact ⟨j + 1, by dsimp only; omega, by rw [inn_step _ hltj, inn_step _ hltj, ← List.append_assoc, ← List.append_assoc]; exact t9, f0_32, f3_32, f4_32, f5_32, by rw [inn_step _ hltj, ← List.append_assoc, hitS_one, hlv]; exact f6_32, by rw [inn_step _ hltj, ← List.append_assoc, hitS_one, hhv]; exact f7_32, f8_32, f9_32, f10_32, f11_32, by omega, by omega⟩)
                                  · first
                                    | (cases hc31; done)
                                    | (exfalso; simp only [decide_eq_true_eq, decide_eq_false_iff_not, Bool.not_eq_true', Bool.not_eq_false', Bool.not_eq_eq_eq_not, Bool.not_true, Bool.not_false] at hc31; omega)
                                    | (skip
                                       try simp only [decide_eq_true_eq, decide_eq_false_iff_not, Bool.not_eq_true', Bool.not_eq_false', Bool.not_eq_eq_eq_not, Bool.not_true, Bool.not_false] at hc31
                                       refine W.skip ?_
                                       refine W.thenN ?_
                                       refine W.seq ?_
                                       refine W.seq ?_
                                       refine W.regionA (fun A hA K hK => ?_)
                                       have gd3 := guardAt hA (j := 3) (d := 133) rfl
                                       clear hA
                                       have z3 := t9.z3
                                       have z4 := t9.z4
                                       have q27 := c27 n1 d1 ((gt l j).lo - (gt l i).hi) ((gt l j).x - (gt l i).x) (by omega) hD
                                       rw [hA i j hltj hjn] at q27
                                       have q27' := c27 ((gt l j).hi - (gt l i).lo) ((gt l j).x - (gt l i).x) n2 d2 hD (by omega)
                                       rw [hB i j hltj hjn] at q27'
                                       simp (config := { maxSteps := 10000000 }) only [go_sem, ↓forkQ_true, ↓forkQ_false, ↓guardQ_some, ↓resQ_val, ↓resQ_unit, ↓resQ_enter, ↓retQ_some, ↓resFQ_val, ↓resFQ_unit, ↓resFQ_enter, ↓retFQ_some, Nat.reduceEqDiff, reduceIte, Nat.reduceAdd, Nat.reduceMul, Nat.reduceSub, reduceCtorEq, Nat.reduceLeDiff, f0_30, f3_30, f4_30, f5_30, f6_30, f7_30, f8_30, f9_30, f10_30, f11_30, f12_30, f13_30, f14_30, f129_30, t10, t12, t14, t16, t26, t27, hadd, haddj, iri, irj, hb', hcs, ci0, ci1, ci2, cj0, cj1, cj2, s0, s1, s2, hbn, hbn', hbn1, hbn1', hf', hw, g13, gl, q27, g14, gg, q27, z3, z4, g13, g14, q27, q27', gd3]
                                       repeat' (first | (refine W.forkP (fun hc33 => ?_) (fun hc33 => ?_) <;> simp (config := { maxSteps := 10000000 }) only [go_sem, ↓forkQ_true, ↓forkQ_false, ↓guardQ_some, ↓resQ_val, ↓resQ_unit, ↓resQ_enter, ↓retQ_some, ↓resFQ_val, ↓resFQ_unit, ↓resFQ_enter, ↓retFQ_some, Nat.reduceEqDiff, reduceIte, Nat.reduceAdd, Nat.reduceMul, Nat.reduceSub, reduceCtorEq, Nat.reduceLeDiff, f0_30, f3_30, f4_30, f5_30, f6_30, f7_30, f8_30, f9_30, f10_30, f11_30, f12_30, f13_30, f14_30, f129_30, t10, t12, t14, t16, t26, t27, hadd, haddj, iri, irj, hb', hcs, ci0, ci1, ci2, cj0, cj1, cj2, s0, s1, s2, hbn, hbn', hbn1, hbn1', hf', hw, g13, gl, q27, g14, gg, q27, z3, z4, g13, g14, q27, q27', gd3, hc33]) | (refine W.fork (fun hc33 => ?_) (fun hc33 => ?_) <;> simp (config := { maxSteps := 10000000 }) only [go_sem, ↓forkQ_true, ↓forkQ_false, ↓guardQ_some, ↓resQ_val, ↓resQ_unit, ↓resQ_enter, ↓retQ_some, ↓resFQ_val, ↓resFQ_unit, ↓resFQ_enter, ↓retFQ_some, Nat.reduceEqDiff, reduceIte, Nat.reduceAdd, Nat.reduceMul, Nat.reduceSub, reduceCtorEq, Nat.reduceLeDiff, f0_30, f3_30, f4_30, f5_30, f6_30, f7_30, f8_30, f9_30, f10_30, f11_30, f12_30, f13_30, f14_30, f129_30, t10, t12, t14, t16, t26, t27, hadd, haddj, iri, irj, hb', hcs, ci0, ci1, ci2, cj0, cj1, cj2, s0, s1, s2, hbn, hbn', hbn1, hbn1', hf', hw, g13, gl, q27, g14, gg, q27, z3, z4, g13, g14, q27, q27', gd3, hc33]))
                                       all_goals
                                         refine hK _ _ ?_
                                         clear hK K A gd3
                                         refine W.forget (fun e33 he33 => ?_)
                                         have f0_33 := congrArg (fun q => Env.get q 0) he33
                                         simp only [go_sem, Nat.reduceEqDiff, reduceIte, f0_30] at f0_33
                                         have f3_33 := congrArg (fun q => Env.get q 3) he33
                                         simp only [go_sem, Nat.reduceEqDiff, reduceIte, f3_30] at f3_33
                                         have f4_33 := congrArg (fun q => Env.get q 4) he33
                                         simp only [go_sem, Nat.reduceEqDiff, reduceIte, f4_30] at f4_33
                                         have f5_33 := congrArg (fun q => Env.get q 5) he33
                                         simp only [go_sem, Nat.reduceEqDiff, reduceIte, f5_30] at f5_33
                                         have f6_33 := congrArg (fun q => Env.get q 6) he33
                                         simp only [go_sem, Nat.reduceEqDiff, reduceIte, f6_30] at f6_33
                                         have f7_33 := congrArg (fun q => Env.get q 7) he33
                                         simp only [go_sem, Nat.reduceEqDiff, reduceIte, f7_30] at f7_33
                                         have f8_33 := congrArg (fun q => Env.get q 8) he33
                                         simp only [go_sem, Nat.reduceEqDiff, reduceIte, f8_30] at f8_33
                                         have f9_33 := congrArg (fun q => Env.get q 9) he33
                                         simp only [go_sem, Nat.reduceEqDiff, reduceIte, f9_30] at f9_33
                                         have f10_33 := congrArg (fun q => Env.get q 10) he33
                                         simp only [go_sem, Nat.reduceEqDiff, reduceIte, f10_30] at f10_33
                                         have f11_33 := congrArg (fun q => Env.get q 11) he33
                                         simp only [go_sem, Nat.reduceEqDiff, reduceIte, f11_30] at f11_33
                                         have f12_33 := congrArg (fun q => Env.get q 12) he33
                                         simp only [go_sem, Nat.reduceEqDiff, reduceIte, f12_30] at f12_33
                                         have f13_33 := congrArg (fun q => Env.get q 13) he33
                                         simp only [go_sem, Nat.reduceEqDiff, reduceIte, f13_30] at f13_33
                                         have f14_33 := congrArg (fun q => Env.get q 14) he33
                                         simp only [go_sem, Nat.reduceEqDiff, reduceIte, f14_30] at f14_33
                                         have f137_33 := congrArg (fun q => Env.get q 137) he33
                                         simp only [go_sem, Nat.reduceEqDiff, reduceIte] at f137_33
                                         clear he33 f0_30 f3_30 f4_30 f5_30 f6_30 f7_30 f8_30 f9_30 f10_30 f11_30 f12_30 f13_30 f14_30 f129_30
                                         refine W.thenN ?_
                                         refine W.cond f137_33 (fun hc34 => ?_) (fun hc34 => ?_)
                                         · first
                                           | (cases hc34; done)
                                           | (exfalso; simp only [decide_eq_true_eq, decide_eq_false_iff_not, Bool.not_eq_true', Bool.not_eq_false', Bool.not_eq_eq_eq_not, Bool.not_true, Bool.not_false] at hc34; omega)
                                           | (skip
                                              try simp only [decide_eq_true_eq, decide_eq_false_iff_not, Bool.not_eq_true', Bool.not_eq_false', Bool.not_eq_eq_eq_not, Bool.not_true, Bool.not_false] at hc34
                                              refine W.seq ?_
                                              refine W.region (fun K hK => ?_)
                                              simp (config := { maxSteps := 10000000 }) only [go_sem, ↓forkQ_true, ↓forkQ_false, ↓guardQ_some, ↓resQ_val, ↓resQ_unit, ↓resQ_enter, ↓retQ_some, ↓resFQ_val, ↓resFQ_unit, ↓resFQ_enter, ↓retFQ_some, Nat.reduceEqDiff, reduceIte, Nat.reduceAdd, Nat.reduceMul, Nat.reduceSub, reduceCtorEq, Nat.reduceLeDiff, f0_33, f3_33, f4_33, f5_33, f6_33, f7_33, f8_33, f9_33, f10_33, f11_33, f12_33, f13_33, f14_33, f137_33, t10, t12, t14, t16, t26, t27, hadd, haddj, iri, irj, hb', hcs, ci0, ci1, ci2, cj0, cj1, cj2, s0, s1, s2, hbn, hbn', hbn1, hbn1', hf', hw, g13, gl, q27, g14, gg, q27, z3, z4, g13, g14, q27, q27']
                                              refine hK _ _ ?_
                                              clear hK K
                                              refine W.forget (fun e35 he35 => ?_)
                                              have f0_35 := congrArg (fun q => Env.get q 0) he35
                                              simp only [go_sem, Nat.reduceEqDiff, reduceIte, f0_33] at f0_35
                                              have f2_35 := congrArg (fun q => Env.get q 2) he35
                                              simp only [go_sem, Nat.reduceEqDiff, reduceIte] at f2_35
                                              have f3_35 := congrArg (fun q => Env.get q 3) he35
                                              simp only [go_sem, Nat.reduceEqDiff, reduceIte, f3_33] at f3_35
                                              have f4_35 := congrArg (fun q => Env.get q 4) he35
                                              simp only [go_sem, Nat.reduceEqDiff, reduceIte, f4_33] at f4_35
                                              have f5_35 := congrArg (fun q => Env.get q 5) he35
                                              simp only [go_sem, Nat.reduceEqDiff, reduceIte, f5_33] at f5_35
                                              have f6_35 := congrArg (fun q => Env.get q 6) he35
                                              simp only [go_sem, Nat.reduceEqDiff, reduceIte, f6_33] at f6_35
                                              have f7_35 := congrArg (fun q => Env.get q 7) he35
                                              simp only [go_sem, Nat.reduceEqDiff, reduceIte, f7_33] at f7_35
                                              have f8_35 := congrArg (fun q => Env.get q 8) he35
                                              simp only [go_sem, Nat.reduceEqDiff, reduceIte, f8_33] at f8_35
                                              have f9_35 := congrArg (fun q => Env.get q 9) he35
                                              simp only [go_sem, Nat.reduceEqDiff, reduceIte, f9_33] at f9_35
                                              have f10_35 := congrArg (fun q => Env.get q 10) he35
                                              simp only [go_sem, Nat.reduceEqDiff, reduceIte, f10_33] at f10_35
                                              have f11_35 := congrArg (fun q => Env.get q 11) he35
                                              simp only [go_sem, Nat.reduceEqDiff, reduceIte, f11_33] at f11_35
                                              have f12_35 := congrArg (fun q => Env.get q 12) he35
                                              simp only [go_sem, Nat.reduceEqDiff, reduceIte, f12_33] at f12_35
                                              have f13_35 := congrArg (fun q => Env.get q 13) he35
                                              simp only [go_sem, Nat.reduceEqDiff, reduceIte, f13_33] at f13_35
                                              have f14_35 := congrArg (fun q => Env.get q 14) he35
                                              simp only [go_sem, Nat.reduceEqDiff, reduceIte, f14_33] at f14_35
                                              clear he35 f0_33 f3_33 f4_33 f5_33 f6_33 f7_33 f8_33 f9_33 f10_33 f11_33 f12_33 f13_33 f14_33 f137_33
                                              refine W.thenN ?_
                                              refine W.ret ?_
                                              refine W.thenR ?_
                                              refine W.blockR ?_
                                              refine W.thenR ?_
                                              refine W.thenR ?_
                                              refine W.blockR ?_
                                              refine W.blockR ?_
                                              refine W.thenR ?_
                                              refine W.thenR ?_
                                              refine W.blockR ?_
                                              refine W.thenR ?_
                                              rw [doneQ_ret]
                                              exact ⟨[.bool true], by simp only [go_sem, ↓forkQ_true, ↓forkQ_false, ↓guardQ_some, ↓resQ_val, ↓resQ_unit, ↓resQ_enter, ↓retQ_some, ↓resFQ_val, ↓resFQ_unit, ↓resFQ_enter, ↓retFQ_some, Nat.reduceEqDiff, reduceIte, Nat.reduceAdd, Nat.reduceMul, Nat.reduceSub, reduceCtorEq, Nat.reduceLeDiff, f0_35, f2_35, f3_35, f4_35, f5_35, f6_35, f7_35, f8_35, f9_35, f10_35, f11_35, f12_35, f13_35, f14_35], rfl⟩)
                                         · first
                                           | (cases hc34; done)
                                           | (exfalso; simp only [decide_eq_true_eq, decide_eq_false_iff_not, Bool.not_eq_true', Bool.not_eq_false', Bool.not_eq_eq_eq_not, Bool.not_true, Bool.not_false] at hc34; omega)
                                           | (skip
                                              try simp only [decide_eq_true_eq, decide_eq_false_iff_not, Bool.not_eq_true', Bool.not_eq_false', Bool.not_eq_eq_eq_not, Bool.not_true, Bool.not_false] at hc34
                                              refine W.skip ?_
                                              refine W.thenN ?_
                                              refine W.seq ?_
                                              cases hlv : hitS n1 d1 (outr (rlP l) l.length i ++ inn (rlP l) i j)
                                              · skip
                                                have m1 : wrapF .i64 (n1 * ((gt l j).x - (gt l i).x)) = n1 * ((gt l j).x - (gt l i).x) := w_mul (A := 2147483648) (B := 1073741824) (by omega) (by omega) (by omega)
                                                have m2 : wrapF .i64 (((gt l j).lo - (gt l i).hi) * d1) = ((gt l j).lo - (gt l i).hi) * d1 := w_mul (A := 2147483648) (B := 1073741824) (by omega) (by omega) (by omega)
                                                refine W.regionA (fun A hA K hK => ?_)
                                                have gd1 := guardAt hA (j := 1) (d := 139) rfl
                                                clear hA
                                                simp (config := { maxSteps := 10000000 }) only [go_sem, ↓forkQ_true, ↓forkQ_false, ↓guardQ_some, ↓resQ_val, ↓resQ_unit, ↓resQ_enter, ↓retQ_some, ↓resFQ_val, ↓resFQ_unit, ↓resFQ_enter, ↓retFQ_some, Nat.reduceEqDiff, reduceIte, Nat.reduceAdd, Nat.reduceMul, Nat.reduceSub, reduceCtorEq, Nat.reduceLeDiff, f0_33, f3_33, f4_33, f5_33, f6_33, f7_33, f8_33, f9_33, f10_33, f11_33, f12_33, f13_33, f14_33, f137_33, t10, t12, t14, t16, t26, t27, hadd, haddj, iri, irj, hb', hcs, ci0, ci1, ci2, cj0, cj1, cj2, s0, s1, s2, hbn, hbn', hbn1, hbn1', hf', hw, g13, gl, q27, g14, gg, q27, z3, z4, g13, g14, q27, q27', hlv, m1, m2, gd1]
                                                repeat' (first | (refine W.forkP (fun hc36 => ?_) (fun hc36 => ?_) <;> simp (config := { maxSteps := 10000000 }) only [go_sem, ↓forkQ_true, ↓forkQ_false, ↓guardQ_some, ↓resQ_val, ↓resQ_unit, ↓resQ_enter, ↓retQ_some, ↓resFQ_val, ↓resFQ_unit, ↓resFQ_enter, ↓retFQ_some, Nat.reduceEqDiff, reduceIte, Nat.reduceAdd, Nat.reduceMul, Nat.reduceSub, reduceCtorEq, Nat.reduceLeDiff, f0_33, f3_33, f4_33, f5_33, f6_33, f7_33, f8_33, f9_33, f10_33, f11_33, f12_33, f13_33, f14_33, f137_33, t10, t12, t14, t16, t26, t27, hadd, haddj, iri, irj, hb', hcs, ci0, ci1, ci2, cj0, cj1, cj2, s0, s1, s2, hbn, hbn', hbn1, hbn1', hf', hw, g13, gl, q27, g14, gg, q27, z3, z4, g13, g14, q27, q27', hlv, m1, m2, gd1, hc36]) | (refine W.fork (fun hc36 => ?_) (fun hc36 => ?_) <;> simp (config := { maxSteps := 10000000 }) only [go_sem, ↓forkQ_true, ↓forkQ_false, ↓guardQ_some, ↓resQ_val, ↓resQ_unit, ↓resQ_enter, ↓retQ_some, ↓resFQ_val, ↓resFQ_unit, ↓resFQ_enter, ↓retFQ_some, Nat.reduceEqDiff, reduceIte, Nat.reduceAdd, Nat.reduceMul, Nat.reduceSub, reduceCtorEq, Nat.reduceLeDiff, f0_33, f3_33, f4_33, f5_33, f6_33, f7_33, f8_33, f9_33, f10_33, f11_33, f12_33, f13_33, f14_33, f137_33, t10, t12, t14, t16, t26, t27, hadd, haddj, iri, irj, hb', hcs, ci0, ci1, ci2, cj0, cj1, cj2, s0, s1, s2, hbn, hbn', hbn1, hbn1', hf', hw, g13, gl, q27, g14, gg, q27, z3, z4, g13, g14, q27, q27', hlv, m1, m2, gd1, hc36]))
                                                all_goals
                                                  refine hK _ _ ?_
                                                  clear hK K A gd1
                                                  refine W.forget (fun e36 he36 => ?_)
                                                  have f0_36 := congrArg (fun q => Env.get q 0) he36
                                                  simp only [go_sem, Nat.reduceEqDiff, reduceIte, f0_33] at f0_36
                                                  have f3_36 := congrArg (fun q => Env.get q 3) he36
                                                  simp only [go_sem, Nat.reduceEqDiff, reduceIte, f3_33] at f3_36
                                                  have f4_36 := congrArg (fun q => Env.get q 4) he36
                                                  simp only [go_sem, Nat.reduceEqDiff, reduceIte, f4_33] at f4_36
                                                  have f5_36 := congrArg (fun q => Env.get q 5) he36
                                                  simp only [go_sem, Nat.reduceEqDiff, reduceIte, f5_33] at f5_36
                                                  have f6_36 := congrArg (fun q => Env.get q 6) he36
                                                  simp only [go_sem, Nat.reduceEqDiff, reduceIte, f6_33] at f6_36
                                                  have f7_36 := congrArg (fun q => Env.get q 7) he36
                                                  simp only [go_sem, Nat.reduceEqDiff, reduceIte, f7_33] at f7_36
                                                  have f8_36 := congrArg (fun q => Env.get q 8) he36
                                                  simp only [go_sem, Nat.reduceEqDiff, reduceIte, f8_33] at f8_36
                                                  have f9_36 := congrArg (fun q => Env.get q 9) he36
                                                  simp only [go_sem, Nat.reduceEqDiff, reduceIte, f9_33] at f9_36
                                                  have f10_36 := congrArg (fun q => Env.get q 10) he36
                                                  simp only [go_sem, Nat.reduceEqDiff, reduceIte, f10_33] at f10_36
                                                  have f11_36 := congrArg (fun q => Env.get q 11) he36
                                                  simp only [go_sem, Nat.reduceEqDiff, reduceIte, f11_33] at f11_36
                                                  have f12_36 := congrArg (fun q => Env.get q 12) he36
                                                  simp only [go_sem, Nat.reduceEqDiff, reduceIte, f12_33] at f12_36
                                                  have f14_36 := congrArg (fun q => Env.get q 14) he36
                                                  simp only [go_sem, Nat.reduceEqDiff, reduceIte, f14_33] at f14_36
                                                  clear he36 f0_33 f3_33 f4_33 f5_33 f6_33 f7_33 f8_33 f9_33 f10_33 f11_33 f12_33 f13_33 f14_33 f137_33
                                                  refine W.thenN ?_
                                                  cases hhv : hitS n2 d2 (outr (rgP l) l.length i ++ inn (rgP l) i j)
                                                  · skip
                                                    have m1 : wrapF .i64 (n2 * ((gt l j).x - (gt l i).x)) = n2 * ((gt l j).x - (gt l i).x) := w_mul (A := 2147483648) (B := 1073741824) (by omega) (by omega) (by omega)
                                                    have m2 : wrapF .i64 (((gt l j).hi - (gt l i).lo) * d2) = ((gt l j).hi - (gt l i).lo) * d2 := w_mul (A := 2147483648) (B := 1073741824) (by omega) (by omega) (by omega)
                                                    refine W.regionA (fun A hA K hK => ?_)
                                                    have gd1 := guardAt hA (j := 1) (d := 152) rfl
                                                    clear hA
                                                    simp (config := { maxSteps := 10000000 }) only [go_sem, ↓forkQ_true, ↓forkQ_false, ↓guardQ_some, ↓resQ_val, ↓resQ_unit, ↓resQ_enter, ↓retQ_some, ↓resFQ_val, ↓resFQ_unit, ↓resFQ_enter, ↓retFQ_some, Nat.reduceEqDiff, reduceIte, Nat.reduceAdd, Nat.reduceMul, Nat.reduceSub, reduceCtorEq, Nat.reduceLeDiff, f0_36, f3_36, f4_36, f5_36, f6_36, f7_36, f8_36, f9_36, f10_36, f11_36, f12_36, f14_36, t10, t12, t14, t16, t26, t27, hadd, haddj, iri, irj, hb', hcs, ci0, ci1, ci2, cj0, cj1, cj2, s0, s1, s2, hbn, hbn', hbn1, hbn1', hf', hw, g13, gl, q27, g14, gg, q27, z3, z4, g13, g14, q27, q27', hlv, m1, m2, hhv, m1, m2, gd1]
                                                    repeat' (first | (refine W.forkP (fun hc37 => ?_) (fun hc37 => ?_) <;> simp (config := { maxSteps := 10000000 }) only [go_sem, ↓forkQ_true, ↓forkQ_false, ↓guardQ_some, ↓resQ_val, ↓resQ_unit, ↓resQ_enter, ↓retQ_some, ↓resFQ_val, ↓resFQ_unit, ↓resFQ_enter, ↓retFQ_some, Nat.reduceEqDiff, reduceIte, Nat.reduceAdd, Nat.reduceMul, Nat.reduceSub, reduceCtorEq, Nat.reduceLeDiff, f0_36, f3_36, f4_36, f5_36, f6_36, f7_36, f8_36, f9_36, f10_36, f11_36, f12_36, f14_36, t10, t12, t14, t16, t26, t27, hadd, haddj, iri, irj, hb', hcs, ci0, ci1, ci2, cj0, cj1, cj2, s0, s1, s2, hbn, hbn', hbn1, hbn1', hf', hw, g13, gl, q27, g14, gg, q27, z3, z4, g13, g14, q27, q27', hlv, m1, m2, hhv, m1, m2, gd1, hc37]) | (refine W.fork (fun hc37 => ?_) (fun hc37 => ?_) <;> simp (config := { maxSteps := 10000000 }) only [go_sem, ↓forkQ_true, ↓forkQ_false, ↓guardQ_some, ↓resQ_val, ↓resQ_unit, ↓resQ_enter, ↓retQ_some, ↓resFQ_val, ↓resFQ_unit, ↓resFQ_enter, ↓retFQ_some, Nat.reduceEqDiff, reduceIte, Nat.reduceAdd, Nat.reduceMul, Nat.reduceSub, reduceCtorEq, Nat.reduceLeDiff, f0_36, f3_36, f4_36, f5_36, f6_36, f7_36, f8_36, f9_36, f10_36, f11_36, f12_36, f14_36, t10, t12, t14, t16, t26, t27, hadd, haddj, iri, irj, hb', hcs, ci0, ci1, ci2, cj0, cj1, cj2, s0, s1, s2, hbn, hbn', hbn1, hbn1', hf', hw, g13, gl, q27, g14, gg, q27, z3, z4, g13, g14, q27, q27', hlv, m1, m2, hhv, m1, m2, gd1, hc37]))
                                                    all_goals
                                                      refine hK _ _ ?_
                                                      clear hK K A gd1
                                                      refine W.forget (fun e37 he37 => ?_)
                                                      have f0_37 := congrArg (fun q => Env.get q 0) he37
                                                      simp only [go_sem, Nat.reduceEqDiff, reduceIte, f0_36] at f0_37
                                                      have f3_37 := congrArg (fun q => Env.get q 3) he37
                                                      simp only [go_sem, Nat.reduceEqDiff, reduceIte, f3_36] at f3_37
                                                      have f4_37 := congrArg (fun q => Env.get q 4) he37
                                                      simp only [go_sem, Nat.reduceEqDiff, reduceIte, f4_36] at f4_37
                                                      have f5_37 := congrArg (fun q => Env.get q 5) he37
                                                      simp only [go_sem, Nat.reduceEqDiff, reduceIte, f5_36] at f5_37
                                                      have f6_37 := congrArg (fun q => Env.get q 6) he37
                                                      simp only [go_sem, Nat.reduceEqDiff, reduceIte, f6_36] at f6_37
                                                      have f7_37 := congrArg (fun q => Env.get q 7) he37
                                                      simp only [go_sem, Nat.reduceEqDiff, reduceIte, f7_36] at f7_37
                                                      have f8_37 := congrArg (fun q => Env.get q 8) he37
                                                      simp only [go_sem, Nat.reduceEqDiff, reduceIte, f8_36] at f8_37
                                                      have f9_37 := congrArg (fun q => Env.get q 9) he37
                                                      simp only [go_sem, Nat.reduceEqDiff, reduceIte, f9_36] at f9_37
                                                      have f10_37 := congrArg (fun q => Env.get q 10) he37
                                                      simp only [go_sem, Nat.reduceEqDiff, reduceIte, f10_36] at f10_37
                                                      have f11_37 := congrArg (fun q => Env.get q 11) he37
                                                      simp only [go_sem, Nat.reduceEqDiff, reduceIte, f11_36] at f11_37
                                                      clear he37 f0_36 f3_36 f4_36 f5_36 f6_36 f7_36 f8_36 f9_36 f10_36 f11_36 f12_36 f14_36
                                                      refine W.blockN ?_
                                                      refine W.thenN ?_
                                                      refine W.region (fun K hK => ?_)
                                                      simp (config := { maxSteps := 10000000 }) only [go_sem, ↓forkQ_true, ↓forkQ_false, ↓guardQ_some, ↓resQ_val, ↓resQ_unit, ↓resQ_enter, ↓retQ_some, ↓resFQ_val, ↓resFQ_unit, ↓resFQ_enter, ↓retFQ_some, Nat.reduceEqDiff, reduceIte, Nat.reduceAdd, Nat.reduceMul, Nat.reduceSub, reduceCtorEq, Nat.reduceLeDiff, f0_37, f3_37, f4_37, f5_37, f6_37, f7_37, f8_37, f9_37, f10_37, f11_37, t10, t12, t14, t16, t26, t27, hadd, haddj, iri, irj, hb', hcs, ci0, ci1, ci2, cj0, cj1, cj2, s0, s1, s2, hbn, hbn', hbn1, hbn1', hf', hw, g13, gl, q27, g14, gg, q27, z3, z4, g13, g14, q27, q27', hlv, m1, m2, hhv, m1, m2]
                                                      refine hK _ _ ?_
                                                      clear hK K
                                                      refine W.forget (fun e38 he38 => ?_)
                                                      have f0_38 := congrArg (fun q => Env.get q 0) he38
                                                      simp only [go_sem, Nat.reduceEqDiff, reduceIte, f0_37] at f0_38
                                                      have f3_38 := congrArg (fun q => Env.get q 3) he38
                                                      simp only [go_sem, Nat.reduceEqDiff, reduceIte, f3_37] at f3_38
                                                      have f4_38 := congrArg (fun q => Env.get q 4) he38
                                                      simp only [go_sem, Nat.reduceEqDiff, reduceIte, f4_37] at f4_38
                                                      have f5_38 := congrArg (fun q => Env.get q 5) he38
                                                      simp only [go_sem, Nat.reduceEqDiff, reduceIte, f5_37] at f5_38
                                                      have f6_38 := congrArg (fun q => Env.get q 6) he38
                                                      simp only [go_sem, Nat.reduceEqDiff, reduceIte, f6_37] at f6_38
                                                      have f7_38 := congrArg (fun q => Env.get q 7) he38
                                                      simp only [go_sem, Nat.reduceEqDiff, reduceIte, f7_37] at f7_38
                                                      have f8_38 := congrArg (fun q => Env.get q 8) he38
                                                      simp only [go_sem, Nat.reduceEqDiff, reduceIte, f8_37] at f8_38
                                                      have f9_38 := congrArg (fun q => Env.get q 9) he38
                                                      simp only [go_sem, Nat.reduceEqDiff, reduceIte, f9_37] at f9_38
                                                      have f10_38 := congrArg (fun q => Env.get q 10) he38
                                                      simp only [go_sem, Nat.reduceEqDiff, reduceIte, f10_37] at f10_38
                                                      have f11_38 := congrArg (fun q => Env.get q 11) he38
                                                      simp only [go_sem, Nat.reduceEqDiff, reduceIte, f11_37] at f11_38
                                                      clear he38 f0_37 f3_37 f4_37 f5_37 f6_37 f7_37 f8_37 f9_37 f10_37 f11_37
                                                      refine W.thenN ?_
                                                      exact ⟨j + 1, by dsimp only; omega, by rw [inn_step _ hltj, inn_step _ hltj, ← List.append_assoc, ← List.append_assoc]; exact t9, f0_38, f3_38, f4_38, f5_38, by rw [inn_step _ hltj, ← List.append_assoc, hitS_one, hlv]; exact f6_38, by rw [inn_step _ hltj, ← List.append_assoc, hitS_one, hhv]; exact f7_38, f8_38, f9_38, f10_38, f11_38, by omega, by omega⟩
                                                  · skip
                                                    refine W.regionA (fun A hA K hK => ?_)
                                                    have gd1 := guardAt hA (j := 1) (d := 152) rfl
                                                    clear hA
                                                    simp (config := { maxSteps := 10000000 }) only [go_sem, ↓forkQ_true, ↓forkQ_false, ↓guardQ_some, ↓resQ_val, ↓resQ_unit, ↓resQ_enter, ↓retQ_some, ↓resFQ_val, ↓resFQ_unit, ↓resFQ_enter, ↓retFQ_some, Nat.reduceEqDiff, reduceIte, Nat.reduceAdd, Nat.reduceMul, Nat.reduceSub, reduceCtorEq, Nat.reduceLeDiff, f0_36, f3_36, f4_36, f5_36, f6_36, f7_36, f8_36, f9_36, f10_36, f11_36, f12_36, f14_36, t10, t12, t14, t16, t26, t27, hadd, haddj, iri, irj, hb', hcs, ci0, ci1, ci2, cj0, cj1, cj2, s0, s1, s2, hbn, hbn', hbn1, hbn1', hf', hw, g13, gl, q27, g14, gg, q27, z3, z4, g13, g14, q27, q27', hlv, m1, m2, hhv, gd1]
                                                    repeat' (first | (refine W.forkP (fun hc39 => ?_) (fun hc39 => ?_) <;> simp (config := { maxSteps := 10000000 }) only [go_sem, ↓forkQ_true, ↓forkQ_false, ↓guardQ_some, ↓resQ_val, ↓resQ_unit, ↓resQ_enter, ↓retQ_some, ↓resFQ_val, ↓resFQ_unit, ↓resFQ_enter, ↓retFQ_some, Nat.reduceEqDiff, reduceIte, Nat.reduceAdd, Nat.reduceMul, Nat.reduceSub, reduceCtorEq, Nat.reduceLeDiff, f0_36, f3_36, f4_36, f5_36, f6_36, f7_36, f8_36, f9_36, f10_36, f11_36, f12_36, f14_36, t10, t12, t14, t16, t26, t27, hadd, haddj, iri, irj, hb', hcs, ci0, ci1, ci2, cj0, cj1, cj2, s0, s1, s2, hbn, hbn', hbn1, hbn1', hf', hw, g13, gl, q27, g14, gg, q27, z3, z4, g13, g14, q27, q27', hlv, m1, m2, hhv, gd1, hc39]) | (refine W.fork (fun hc39 => ?_) (fun hc39 => ?_) <;> simp (config := { maxSteps := 10000000 }) only [go_sem, ↓forkQ_true, ↓forkQ_false, ↓guardQ_some, ↓resQ_val, ↓resQ_unit, ↓resQ_enter, ↓retQ_some, ↓resFQ_val, ↓resFQ_unit, ↓resFQ_enter, ↓retFQ_some, Nat.reduceEqDiff, reduceIte, Nat.reduceAdd, Nat.reduceMul, Nat.reduceSub, reduceCtorEq, Nat.reduceLeDiff, f0_36, f3_36, f4_36, f5_36, f6_36, f7_36, f8_36, f9_36, f10_36, f11_36, f12_36, f14_36, t10, t12, t14, t16, t26, t27, hadd, haddj, iri, irj, hb', hcs, ci0, ci1, ci2, cj0, cj1, cj2, s0, s1, s2, hbn, hbn', hbn1, hbn1', hf', hw, g13, gl, q27, g14, gg, q27, z3, z4, g13, g14, q27, q27', hlv, m1, m2, hhv, gd1, hc39]))
                                                    all_goals
                                                      refine hK _ _ ?_
                                                      clear hK K A gd1
                                                      refine W.forget (fun e39 he39 => ?_)
                                                      have f0_39 := congrArg (fun q => Env.get q 0) he39
                                                      simp only [go_sem, Nat.reduceEqDiff, reduceIte, f0_36] at f0_39
                                                      have f3_39 := congrArg (fun q => Env.get q 3) he39
                                                      simp only [go_sem, Nat.reduceEqDiff, reduceIte, f3_36] at f3_39
                                                      have f4_39 := congrArg (fun q => Env.get q 4) he39
                                                      simp only [go_sem, Nat.reduceEqDiff, reduceIte, f4_36] at f4_39
                                                      have f5_39 := congrArg (fun q => Env.get q 5) he39
                                                      simp only [go_sem, Nat.reduceEqDiff, reduceIte, f5_36] at f5_39
                                                      have f6_39 := congrArg (fun q => Env.get q 6) he39
                                                      simp only [go_sem, Nat.reduceEqDiff, reduceIte, f6_36] at f6_39
                                                      have f7_39 := congrArg (fun q => Env.get q 7) he39
                                                      simp only [go_sem, Nat.reduceEqDiff, reduceIte, f7_36] at f7_39
                                                      have f8_39 := congrArg (fun q => Env.get q 8) he39
                                                      simp only [go_sem, Nat.reduceEqDiff, reduceIte, f8_36] at f8_39
                                                      have f9_39 := congrArg (fun q => Env.get q 9) he39
                                                      simp only [go_sem, Nat.reduceEqDiff, reduceIte, f9_36] at f9_39
                                                      have f10_39 := congrArg (fun q => Env.get q 10) he39
                                                      simp only [go_sem, Nat.reduceEqDiff, reduceIte, f10_36] at f10_39
                                                      have f11_39 := congrArg (fun q => Env.get q 11) he39
                                                      simp only [go_sem, Nat.reduceEqDiff, reduceIte, f11_36] at f11_39
                                                      clear he39 f0_36 f3_36 f4_36 f5_36 f6_36 f7_36 f8_36 f9_36 f10_36 f11_36 f12_36 f14_36
                                                      refine W.blockN ?_
                                                      refine W.thenN ?_
                                                      refine W.region (fun K hK => ?_)
                                                      simp (config := { maxSteps := 10000000 }) only [go_sem, ↓forkQ_true, ↓forkQ_false, ↓guardQ_some, ↓resQ_val, ↓resQ_unit, ↓resQ_enter, ↓retQ_some, ↓resFQ_val, ↓resFQ_unit, ↓resFQ_enter, ↓retFQ_some, Nat.reduceEqDiff, reduceIte, Nat.reduceAdd, Nat.reduceMul, Nat.reduceSub, reduceCtorEq, Nat.reduceLeDiff, f0_39, f3_39, f4_39, f5_39, f6_39, f7_39, f8_39, f9_39, f10_39, f11_39, t10, t12, t14, t16, t26, t27, hadd, haddj, iri, irj, hb', hcs, ci0, ci1, ci2, cj0, cj1, cj2, s0, s1, s2, hbn, hbn', hbn1, hbn1', hf', hw, g13, gl, q27, g14, gg, q27, z3, z4, g13, g14, q27, q27', hlv, m1, m2, hhv]
                                                      refine hK _ _ ?_
                                                      clear hK K
                                                      refine W.forget (fun e40 he40 => ?_)
                                                      have f0_40 := congrArg (fun q => Env.get q 0) he40
                                                      simp only [go_sem, Nat.reduceEqDiff, reduceIte, f0_39] at f0_40
                                                      have f3_40 := congrArg (fun q => Env.get q 3) he40
                                                      simp only [go_sem, Nat.reduceEqDiff, reduceIte, f3_39] at f3_40
                                                      have f4_40 := congrArg (fun q => Env.get q 4) he40
                                                      simp only [go_sem, Nat.reduceEqDiff, reduceIte, f4_39] at f4_40
                                                      have f5_40 := congrArg (fun q => Env.get q 5) he40
                                                      simp only [go_sem, Nat.reduceEqDiff, reduceIte, f5_39] at f5_40
                                                      have f6_40 := congrArg (fun q => Env.get q 6) he40
                                                      simp only [go_sem, Nat.reduceEqDiff, reduceIte, f6_39] at f6_40
                                                      have f7_40 := congrArg (fun q => Env.get q 7) he40
                                                      simp only [go_sem, Nat.reduceEqDiff, reduceIte, f7_39] at f7_40
                                                      have f8_40 := congrArg (fun q => Env.get q 8) he40
                                                      simp only [go_sem, Nat.reduceEqDiff, reduceIte, f8_39] at f8_40
                                                      have f9_40 := congrArg (fun q => Env.get q 9) he40
                                                      simp only [go_sem, Nat.reduceEqDiff, reduceIte, f9_39] at f9_40
                                                      have f10_40 := congrArg (fun q => Env.get q 10) he40
                                                      simp only [go_sem, Nat.reduceEqDiff, reduceIte, f10_39] at f10_40
                                                      have f11_40 := congrArg (fun q => Env.get q 11) he40
                                                      simp only [go_sem, Nat.reduceEqDiff, reduceIte, f11_39] at f11_40
                                                      clear he40 f0_39 f3_39 f4_39 f5_39 f6_39 f7_39 f8_39 f9_39 f10_39 f11_39
                                                      refine W.thenN ?_
                                                      exact ⟨j + 1, by dsimp only; omega, by rw [inn_step _ hltj, inn_step _ hltj, ← List.append_assoc, ← List.append_assoc]; exact t9, f0_40, f3_40, f4_40, f5_40, by rw [inn_step _ hltj, ← List.append_assoc, hitS_one, hlv]; exact f6_40, by rw [inn_step _ hltj, ← List.append_assoc, hitS_one, hhv]; exact f7_40, f8_40, f9_40, f10_40, f11_40, by omega, by omega⟩
                                              · skip
                                                refine W.regionA (fun A hA K hK => ?_)
                                                have gd1 := guardAt hA (j := 1) (d := 139) rfl
                                                clear hA
                                                simp (config := { maxSteps := 10000000 }) only [go_sem, ↓forkQ_true, ↓forkQ_false, ↓guardQ_some, ↓resQ_val, ↓resQ_unit, ↓resQ_enter, ↓retQ_some, ↓resFQ_val, ↓resFQ_unit, ↓resFQ_enter, ↓retFQ_some, Nat.reduceEqDiff, reduceIte, Nat.reduceAdd, Nat.reduceMul, Nat.reduceSub, reduceCtorEq, Nat.reduceLeDiff, f0_33, f3_33, f4_33, f5_33, f6_33, f7_33, f8_33, f9_33, f10_33, f11_33, f12_33, f13_33, f14_33, f137_33, t10, t12, t14, t16, t26, t27, hadd, haddj, iri, irj, hb', hcs, ci0, ci1, ci2, cj0, cj1, cj2, s0, s1, s2, hbn, hbn', hbn1, hbn1', hf', hw, g13, gl, q27, g14, gg, q27, z3, z4, g13, g14, q27, q27', hlv, gd1]
                                                repeat' (first | (refine W.forkP (fun hc41 => ?_) (fun hc41 => ?_) <;> simp (config := { maxSteps := 10000000 }) only [go_sem, ↓forkQ_true, ↓forkQ_false, ↓guardQ_some, ↓resQ_val, ↓resQ_unit, ↓resQ_enter, ↓retQ_some, ↓resFQ_val, ↓resFQ_unit, ↓resFQ_enter, ↓retFQ_some, Nat.reduceEqDiff, reduceIte, Nat.reduceAdd, Nat.reduceMul, Nat.reduceSub, reduceCtorEq, Nat.reduceLeDiff, f0_33, f3_33, f4_33, f5_33, f6_33, f7_33, f8_33, f9_33, f10_33, f11_33, f12_33, f13_33, f14_33, f137_33, t10, t12, t14, t16, t26, t27, hadd, haddj, iri, irj, hb', hcs, ci0, ci1, ci2, cj0, cj1, cj2, s0, s1, s2, hbn, hbn', hbn1, hbn1', hf', hw, g13, gl, q27, g14, gg, q27, z3, z4, g13, g14, q27, q27', hlv, gd1, hc41]) | (refine W.fork (fun hc41 => ?_) (fun hc41 => ?_) <;> simp (config := { maxSteps := 10000000 }) only [go_sem, ↓forkQ_true, ↓forkQ_false, ↓guardQ_some, ↓resQ_val, ↓resQ_unit, ↓resQ_enter, ↓retQ_some, ↓resFQ_val, ↓resFQ_unit, ↓resFQ_enter, ↓retFQ_some, Nat.reduceEqDiff, reduceIte, Nat.reduceAdd, Nat.reduceMul, Nat.reduceSub, reduceCtorEq, Nat.reduceLeDiff, f0_33, f3_33, f4_33, f5_33, f6_33, f7_33, f8_33, f9_33, f10_33, f11_33, f12_33, f13_33, f14_33, f137_33, t10, t12, t14, t16, t26, t27, hadd, haddj, iri, irj, hb', hcs, ci0, ci1, ci2, cj0, cj1, cj2, s0, s1, s2, hbn, hbn', hbn1, hbn1', hf', hw, g13, gl, q27, g14, gg, q27, z3, z4, g13, g14, q27, q27', hlv, gd1, hc41]))
                                                all_goals
                                                  refine hK _ _ ?_
                                                  clear hK K A gd1
                                                  refine W.forget (fun e41 he41 => ?_)
                                                  have f0_41 := congrArg (fun q => Env.get q 0) he41
                                                  simp only [go_sem, Nat.reduceEqDiff, reduceIte, f0_33] at f0_41
                                                  have f3_41 := congrArg (fun q => Env.get q 3) he41
                                                  simp only [go_sem, Nat.reduceEqDiff, reduceIte, f3_33] at f3_41
                                                  have f4_41 := congrArg (fun q => Env.get q 4) he41
                                                  simp only [go_sem, Nat.reduceEqDiff, reduceIte, f4_33] at f4_41
                                                  have f5_41 := congrArg (fun q => Env.get q 5) he41
                                                  simp only [go_sem, Nat.reduceEqDiff, reduceIte, f5_33] at f5_41
                                                  have f6_41 := congrArg (fun q => Env.get q 6) he41
                                                  simp only [go_sem, Nat.reduceEqDiff, reduceIte, f6_33] at f6_41
                                                  have f7_41 := congrArg (fun q => Env.get q 7) he41
                                                  simp only [go_sem, Nat.reduceEqDiff, reduceIte, f7_33] at f7_41
                                                  have f8_41 := congrArg (fun q => Env.get q 8) he41
                                                  simp only [go_sem, Nat.reduceEqDiff, reduceIte, f8_33] at f8_41
                                                  have f9_41 := congrArg (fun q => Env.get q 9) he41
                                                  simp only [go_sem, Nat.reduceEqDiff, reduceIte, f9_33] at f9_41
                                                  have f10_41 := congrArg (fun q => Env.get q 10) he41
                                                  simp only [go_sem, Nat.reduceEqDiff, reduceIte, f10_33] at f10_41
                                                  have f11_41 := congrArg (fun q => Env.get q 11) he41
                                                  simp only [go_sem, Nat.reduceEqDiff, reduceIte, f11_33] at f11_41
                                                  have f12_41 := congrArg (fun q => Env.get q 12) he41
                                                  simp only [go_sem, Nat.reduceEqDiff, reduceIte, f12_33] at f12_41
                                                  have f14_41 := congrArg (fun q => Env.get q 14) he41
                                                  simp only [go_sem, Nat.reduceEqDiff, reduceIte, f14_33] at f14_41
                                                  clear he41 f0_33 f3_33 f4_33 f5_33 f6_33 f7_33 f8_33 f9_33 f10_33 f11_33 f12_33 f13_33 f14_33 f137_33
                                                  refine W.thenN ?_
                                                  cases hhv : hitS n2 d2 (outr (rgP l) l.length i ++ inn (rgP l) i j)
                                                  · skip
                                                    have m1 : wrapF .i64 (n2 * ((gt l j).x - (gt l i).x)) = n2 * ((gt l j).x - (gt l i).x) := w_mul (A := 2147483648) (B := 1073741824) (by omega) (by omega) (by omega)
                                                    have m2 : wrapF .i64 (((gt l j).hi - (gt l i).lo) * d2) = ((gt l j).hi - (gt l i).lo) * d2 := w_mul (A := 2147483648) (B := 1073741824) (by omega) (by omega) (by omega)
                                                    refine W.regionA (fun A hA K hK => ?_)
                                                    have gd1 := guardAt hA (j := 1) (d := 152) rfl
                                                    clear hA
                                                    simp (config := { maxSteps := 10000000 }) only [go_sem, ↓forkQ_true, ↓forkQ_false, ↓guardQ_some, ↓resQ_val, ↓resQ_unit, ↓resQ_enter, ↓retQ_some, ↓resFQ_val, ↓resFQ_unit, ↓resFQ_enter, ↓retFQ_some, Nat.reduceEqDiff, reduceIte, Nat.reduceAdd, Nat.reduceMul, Nat.reduceSub, reduceCtorEq, Nat.reduceLeDiff, f0_41, f3_41, f4_41, f5_41, f6_41, f7_41, f8_41, f9_41, f10_41, f11_41, f12_41, f14_41, t10, t12, t14, t16, t26, t27, hadd, haddj, iri, irj, hb', hcs, ci0, ci1, ci2, cj0, cj1, cj2, s0, s1, s2, hbn, hbn', hbn1, hbn1', hf', hw, g13, gl, q27, g14, gg, q27, z3, z4, g13, g14, q27, q27', hlv, hhv, m1, m2, gd1]
                                                    repeat' (first | (refine W.forkP (fun hc42 => ?_) (fun hc42 => ?_) <;> simp (config := { maxSteps := 10000000 }) only [go_sem, ↓forkQ_true, ↓forkQ_false, ↓guardQ_some, ↓resQ_val, ↓resQ_unit, ↓resQ_enter, ↓retQ_some, ↓resFQ_val, ↓resFQ_unit, ↓resFQ_enter, ↓retFQ_some, Nat.reduceEqDiff, reduceIte, Nat.reduceAdd, Nat.reduceMul, Nat.reduceSub, reduceCtorEq, Nat.reduceLeDiff, f0_41, f3_41, f4_41, f5_41, f6_41, f7_41, f8_41, f9_41, f10_41, f11_41, f12_41, f14_41, t10, t12, t14, t16, t26, t27, hadd, haddj, iri, irj, hb', hcs, ci0, ci1, ci2, cj0, cj1, cj2, s0, s1, s2, hbn, hbn', hbn1, hbn1', hf', hw, g13, gl, q27, g14, gg, q27, z3, z4, g13, g14, q27, q27', hlv, hhv, m1, m2, gd1, hc42]) | (refine W.fork (fun hc42 => ?_) (fun hc42 => ?_) <;> simp (config := { maxSteps := 10000000 }) only [go_sem, ↓forkQ_true, ↓forkQ_false, ↓guardQ_some, ↓resQ_val, ↓resQ_unit, ↓resQ_enter, ↓retQ_some, ↓resFQ_val, ↓resFQ_unit, ↓resFQ_enter, ↓retFQ_some, Nat.reduceEqDiff, reduceIte, Nat.reduceAdd, Nat.reduceMul, Nat.reduceSub, reduceCtorEq, Nat.reduceLeDiff, f0_41, f3_41, f4_41, f5_41, f6_41, f7_41, f8_41, f9_41, f10_41, f11_41, f12_41, f14_41, t10, t12, t14, t16, t26, t27, hadd, haddj, iri, irj, hb', hcs, ci0, ci1, ci2, cj0, cj1, cj2, s0, s1, s2, hbn, hbn', hbn1, hbn1', hf', hw, g13, gl, q27, g14, gg, q27, z3, z4, g13, g14, q27, q27', hlv, hhv, m1, m2, gd1, hc42]))
                                                    all_goals
                                                      refine hK _ _ ?_
                                                      clear hK K A gd1
                                                      refine W.forget (fun e42 he42 => ?_)
                                                      have f0_42 := congrArg (fun q => Env.get q 0) he42
                                                      simp only [go_sem, Nat.reduceEqDiff, reduceIte, f0_41] at f0_42
                                                      have f3_42 := congrArg (fun q => Env.get q 3) he42
                                                      simp only [go_sem, Nat.reduceEqDiff, reduceIte, f3_41] at f3_42
                                                      have f4_42 := congrArg (fun q => Env.get q 4) he42
                                                      simp only [go_sem, Nat.reduceEqDiff, reduceIte, f4_41] at f4_42
                                                      have f5_42 := congrArg (fun q => Env.get q 5) he42
                                                      simp only [go_sem, Nat.reduceEqDiff, reduceIte, f5_41] at f5_42
                                                      have f6_42 := congrArg (fun q => Env.get q 6) he42
                                                      simp only [go_sem, Nat.reduceEqDiff, reduceIte, f6_41] at f6_42
                                                      have f7_42 := congrArg (fun q => Env.get q 7) he42
                                                      simp only [go_sem, Nat.reduceEqDiff, reduceIte, f7_41] at f7_42
                                                      have f8_42 := congrArg (fun q => Env.get q 8) he42
                                                      simp only [go_sem, Nat.reduceEqDiff, reduceIte, f8_41] at f8_42
                                                      have f9_42 := congrArg (fun q => Env.get q 9) he42
                                                      simp only [go_sem, Nat.reduceEqDiff, reduceIte, f9_41] at f9_42
                                                      have f10_42 := congrArg (fun q => Env.get q 10) he42
                                                      simp only [go_sem, Nat.reduceEqDiff, reduceIte, f10_41] at f10_42
                                                      have f11_42 := congrArg (fun q => Env.get q 11) he42
                                                      simp only [go_sem, Nat.reduceEqDiff, reduceIte, f11_41] at f11_42
                                                      clear he42 f0_41 f3_41 f4_41 f5_41 f6_41 f7_41 f8_41 f9_41 f10_41 f11_41 f12_41 f14_41
                                                      refine W.blockN ?_
                                                      refine W.thenN ?_
                                                      refine W.region (fun K hK => ?_)
                                                      simp (config := { maxSteps := 10000000 }) only [go_sem, ↓forkQ_true, ↓forkQ_false, ↓guardQ_some, ↓resQ_val, ↓resQ_unit, ↓resQ_enter, ↓retQ_some, ↓resFQ_val, ↓resFQ_unit, ↓resFQ_enter, ↓retFQ_some, Nat.reduceEqDiff, reduceIte, Nat.reduceAdd, Nat.reduceMul, Nat.reduceSub, reduceCtorEq, Nat.reduceLeDiff, f0_42, f3_42, f4_42, f5_42, f6_42, f7_42, f8_42, f9_42, f10_42, f11_42, t10, t12, t14, t16, t26, t27, hadd, haddj, iri, irj, hb', hcs, ci0, ci1, ci2, cj0, cj1, cj2, s0, s1, s2, hbn, hbn', hbn1, hbn1', hf', hw, g13, gl, q27, g14, gg, q27, z3, z4, g13, g14, q27, q27', hlv, hhv, m1, m2]
                                                      refine hK _ _ ?_
                                                      clear hK K
                                                      refine W.forget (fun e43 he43 => ?_)
                                                      have f0_43 := congrArg (fun q => Env.get q 0) he43
                                                      simp only [go_sem, Nat.reduceEqDiff, reduceIte, f0_42] at f0_43
                                                      have f3_43 := congrArg (fun q => Env.get q 3) he43
                                                      simp only [go_sem, Nat.reduceEqDiff, reduceIte, f3_42] at f3_43
                                                      have f4_43 := congrArg (fun q => Env.get q 4) he43
                                                      simp only [go_sem, Nat.reduceEqDiff, reduceIte, f4_42] at f4_43
                                                      have f5_43 := congrArg (fun q => Env.get q 5) he43
                                                      simp only [go_sem, Nat.reduceEqDiff, reduceIte, f5_42] at f5_43
                                                      have f6_43 := congrArg (fun q => Env.get q 6) he43
                                                      simp only [go_sem, Nat.reduceEqDiff, reduceIte, f6_42] at f6_43
                                                      have f7_43 := congrArg (fun q => Env.get q 7) he43
                                                      simp only [go_sem, Nat.reduceEqDiff, reduceIte, f7_42] at f7_43
                                                      have f8_43 := congrArg (fun q => Env.get q 8) he43
                                                      simp only [go_sem, Nat.reduceEqDiff, reduceIte, f8_42] at f8_43
                                                      have f9_43 := congrArg (fun q => Env.get q 9) he43
                                                      simp only [go_sem, Nat.reduceEqDiff, reduceIte, f9_42] at f9_43
                                                      have f10_43 := congrArg (fun q => Env.get q 10) he43
                                                      simp only [go_sem, Nat.reduceEqDiff, reduceIte, f10_42] at f10_43
                                                      have f11_43 := congrArg (fun q => Env.get q 11) he43
                                                      simp only [go_sem, Nat.reduceEqDiff, reduceIte, f11_42] at f11_43
                                                      clear he43 f0_42 f3_42 f4_42 f5_42 f6_42 f7_42 f8_42 f9_42 f10_42 f11_42
                                                      refine W.thenN ?_
                                                      exact ⟨j + 1, by dsimp only; omega, by rw [inn_step _ hltj, inn_step _ hltj, ← List.append_assoc, ← List.append_assoc]; exact t9, f0_43, f3_43, f4_43, f5_43, by rw [inn_step _ hltj, ← List.append_assoc, hitS_one, hlv]; exact f6_43, by rw [inn_step _ hltj, ← List.append_assoc, hitS_one, hhv]; exact f7_43, f8_43, f9_43, f10_43, f11_43, by omega, by omega⟩
                                                  · skip
                                                    refine W.regionA (fun A hA K hK => ?_)
                                                    have gd1 := guardAt hA (j := 1) (d := 152) rfl
                                                    clear hA
                                                    simp (config := { maxSteps := 10000000 }) only [go_sem, ↓forkQ_true, ↓forkQ_false, ↓guardQ_some, ↓resQ_val, ↓resQ_unit, ↓resQ_enter, ↓retQ_some, ↓resFQ_val, ↓resFQ_unit, ↓resFQ_enter, ↓retFQ_some, Nat.reduceEqDiff, reduceIte, Nat.reduceAdd, Nat.reduceMul, Nat.reduceSub, reduceCtorEq, Nat.reduceLeDiff, f0_41, f3_41, f4_41, f5_41, f6_41, f7_41, f8_41, f9_41, f10_41, f11_41, f12_41, f14_41, t10, t12, t14, t16, t26, t27, hadd, haddj, iri, irj, hb', hcs, ci0, ci1, ci2, cj0, cj1, cj2, s0, s1, s2, hbn, hbn', hbn1, hbn1', hf', hw, g13, gl, q27, g14, gg, q27, z3, z4, g13, g14, q27, q27', hlv, hhv, gd1]
                                                    repeat' (first | (refine W.forkP (fun hc44 => ?_) (fun hc44 => ?_) <;> simp (config := { maxSteps := 10000000 }) only [go_sem, ↓forkQ_true, ↓forkQ_false, ↓guardQ_some, ↓resQ_val, ↓resQ_unit, ↓resQ_enter, ↓retQ_some, ↓resFQ_val, ↓resFQ_unit, ↓resFQ_enter, ↓retFQ_some, Nat.reduceEqDiff, reduceIte, Nat.reduceAdd, Nat.reduceMul, Nat.reduceSub, reduceCtorEq, Nat.reduceLeDiff, f0_41, f3_41, f4_41, f5_41, f6_41, f7_41, f8_41, f9_41, f10_41, f11_41, f12_41, f14_41, t10, t12, t14, t16, t26, t27, hadd, haddj, iri, irj, hb', hcs, ci0, ci1, ci2, cj0, cj1, cj2, s0, s1, s2, hbn, hbn', hbn1, hbn1', hf', hw, g13, gl, q27, g14, gg, q27, z3, z4, g13, g14, q27, q27', hlv, hhv, gd1, hc44]) | (refine W.fork (fun hc44 => ?_) (fun hc44 => ?_) <;> simp (config := { maxSteps := 10000000 }) only [go_sem, ↓forkQ_true, ↓forkQ_false, ↓guardQ_some, ↓resQ_val, ↓resQ_unit, ↓resQ_enter, ↓retQ_some, ↓resFQ_val, ↓resFQ_unit, ↓resFQ_enter, ↓retFQ_some, Nat.reduceEqDiff, reduceIte, Nat.reduceAdd, Nat.reduceMul, Nat.reduceSub, reduceCtorEq, Nat.reduceLeDiff, f0_41, f3_41, f4_41, f5_41, f6_41, f7_41, f8_41, f9_41, f10_41, f11_41, f12_41, f14_41, t10, t12, t14, t16, t26, t27, hadd, haddj, iri, irj, hb', hcs, ci0, ci1, ci2, cj0, cj1, cj2, s0, s1, s2, hbn, hbn', hbn1, hbn1', hf', hw, g13, gl, q27, g14, gg, q27, z3, z4, g13, g14, q27, q27', hlv, hhv, gd1, hc44]))
                                                    all_goals
                                                      refine hK _ _ ?_
                                                      clear hK K A gd1
                                                      refine W.forget (fun e44 he44 => ?_)
                                                      have f0_44 := congrArg (fun q => Env.get q 0) he44
                                                      simp only [go_sem, Nat.reduceEqDiff, reduceIte, f0_41] at f0_44
                                                      have f3_44 := congrArg (fun q => Env.get q 3) he44
                                                      simp only [go_sem, Nat.reduceEqDiff, reduceIte, f3_41] at f3_44
                                                      have f4_44 := congrArg (fun q => Env.get q 4) he44
                                                      simp only [go_sem, Nat.reduceEqDiff, reduceIte, f4_41] at f4_44
                                                      have f5_44 := congrArg (fun q => Env.get q 5) he44
                                                      simp only [go_sem, Nat.reduceEqDiff, reduceIte, f5_41] at f5_44
                                                      have f6_44 := congrArg (fun q => Env.get q 6) he44
                                                      simp only [go_sem, Nat.reduceEqDiff, reduceIte, f6_41] at f6_44
                                                      have f7_44 := congrArg (fun q => Env.get q 7) he44
                                                      simp only [go_sem, Nat.reduceEqDiff, reduceIte, f7_41] at f7_44
                                                      have f8_44 := congrArg (fun q => Env.get q 8) he44
                                                      simp only [go_sem, Nat.reduceEqDiff, reduceIte, f8_41] at f8_44
                                                      have f9_44 := congrArg (fun q => Env.get q 9) he44
                                                      simp only [go_sem, Nat.reduceEqDiff, reduceIte, f9_41] at f9_44
                                                      have f10_44 := congrArg (fun q => Env.get q 10) he44
                                                      simp only [go_sem, Nat.reduceEqDiff, reduceIte, f10_41] at f10_44
                                                      have f11_44 := congrArg (fun q => Env.get q 11) he44
                                                      simp only [go_sem, Nat.reduceEqDiff, reduceIte, f11_41] at f11_44
                                                      clear he44 f0_41 f3_41 f4_41 f5_41 f6_41 f7_41 f8_41 f9_41 f10_41 f11_41 f12_41 f14_41
                                                      refine W.blockN ?_
                                                      refine W.thenN ?_
                                                      refine W.region (fun K hK => ?_)
                                                      simp (config := { maxSteps := 10000000 }) only [go_sem, ↓forkQ_true, ↓forkQ_false, ↓guardQ_some, ↓resQ_val, ↓resQ_unit, ↓resQ_enter, ↓retQ_some, ↓resFQ_val, ↓resFQ_unit, ↓resFQ_enter, ↓retFQ_some, Nat.reduceEqDiff, reduceIte, Nat.reduceAdd, Nat.reduceMul, Nat.reduceSub, reduceCtorEq, Nat.reduceLeDiff, f0_44, f3_44, f4_44, f5_44, f6_44, f7_44, f8_44, f9_44, f10_44, f11_44, t10, t12, t14, t16, t26, t27, hadd, haddj, iri, irj, hb', hcs, ci0, ci1, ci2, cj0, cj1, cj2, s0, s1, s2, hbn, hbn', hbn1, hbn1', hf', hw, g13, gl, q27, g14, gg, q27, z3, z4, g13, g14, q27, q27', hlv, hhv]
                                                      refine hK _ _ ?_
                                                      clear hK K
                                                      refine W.forget (fun e45 he45 => ?_)
                                                      have f0_45 := congrArg (fun q => Env.get q 0) he45
                                                      simp only [go_sem, Nat.reduceEqDiff, reduceIte, f0_44] at f0_45
                                                      have f3_45 := congrArg (fun q => Env.get q 3) he45
                                                      simp only [go_sem, Nat.reduceEqDiff, reduceIte, f3_44] at f3_45
                                                      have f4_45 := congrArg (fun q => Env.get q 4) he45
                                                      simp only [go_sem, Nat.reduceEqDiff, reduceIte, f4_44] at f4_45
                                                      have f5_45 := congrArg (fun q => Env.get q 5) he45
                                                      simp only [go_sem, Nat.reduceEqDiff, reduceIte, f5_44] at f5_45
                                                      have f6_45 := congrArg (fun q => Env.get q 6) he45
                                                      simp only [go_sem, Nat.reduceEqDiff, reduceIte, f6_44] at f6_45
                                                      have f7_45 := congrArg (fun q => Env.get q 7) he45
                                                      simp only [go_sem, Nat.reduceEqDiff, reduceIte, f7_44] at f7_45
                                                      have f8_45 := congrArg (fun q => Env.get q 8) he45
                                                      simp only [go_sem, Nat.reduceEqDiff, reduceIte, f8_44] at f8_45
                                                      have f9_45 := congrArg (fun q => Env.get q 9) he45
                                                      simp only [go_sem, Nat.reduceEqDiff, reduceIte, f9_44] at f9_45
                                                      have f10_45 := congrArg (fun q => Env.get q 10) he45
                                                      simp only [go_sem, Nat.reduceEqDiff, reduceIte, f10_44] at f10_45
                                                      have f11_45 := congrArg (fun q => Env.get q 11) he45
                                                      simp only [go_sem, Nat.reduceEqDiff, reduceIte, f11_44] at f11_45
                                                      clear he45 f0_44 f3_44 f4_44 f5_44 f6_44 f7_44 f8_44 f9_44 f10_44 f11_44
                                                      refine W.thenN ?_
                                                      exact ⟨j + 1, by dsimp only; omega, by rw [inn_step _ hltj, inn_step _ hltj, ← List.append_assoc, ← List.append_assoc]; exact t9, f0_45, f3_45, f4_45, f5_45, by rw [inn_step _ hltj, ← List.append_assoc, hitS_one, hlv]; exact f6_45, by rw [inn_step _ hltj, ← List.append_assoc, hitS_one, hhv]; exact f7_45, f8_45, f9_45, f10_45, f11_45, by omega, by omega⟩)))
                         · first
                           | (cases hc19; done)
                           | (exfalso; simp only [decide_eq_true_eq, decide_eq_false_iff_not, Bool.not_eq_true', Bool.not_eq_false', Bool.not_eq_eq_eq_not, Bool.not_true, Bool.not_false] at hc19; omega)
                           | (skip
                              try simp only [decide_eq_true_eq, decide_eq_false_iff_not, Bool.not_eq_true', Bool.not_eq_false', Bool.not_eq_eq_eq_not, Bool.not_true, Bool.not_false] at hc19
                              refine W.exit ?_
                              refine W.thenE ?_
                              refine W.thenE ?_
                              refine W.blockE ?_
                              refine W.blockN ?_
                              refine W.thenN ?_
                              refine W.region (fun K hK => ?_)
                              simp (config := { maxSteps := 10000000 }) only [go_sem, ↓forkQ_true, ↓forkQ_false, ↓guardQ_some, ↓resQ_val, ↓resQ_unit, ↓resQ_enter, ↓retQ_some, ↓resFQ_val, ↓resFQ_unit, ↓resFQ_enter, ↓retFQ_some, Nat.reduceEqDiff, reduceIte, Nat.reduceAdd, Nat.reduceMul, Nat.reduceSub, reduceCtorEq, Nat.reduceLeDiff, f0_18, f3_18, f4_18, f5_18, f6_18, f7_18, f8_18, f9_18, f10_18, f11_18, f80_18, t10, t12, t14, t16, t26, t27, hadd]
                              refine hK _ _ ?_
                              clear hK K
                              refine W.forget (fun e46 he46 => ?_)
                              have f0_46 := congrArg (fun q => Env.get q 0) he46
                              simp only [go_sem, Nat.reduceEqDiff, reduceIte, f0_18] at f0_46
                              have f3_46 := congrArg (fun q => Env.get q 3) he46
                              simp only [go_sem, Nat.reduceEqDiff, reduceIte, f3_18] at f3_46
                              have f4_46 := congrArg (fun q => Env.get q 4) he46
                              simp only [go_sem, Nat.reduceEqDiff, reduceIte, f4_18] at f4_46
                              have f5_46 := congrArg (fun q => Env.get q 5) he46
                              simp only [go_sem, Nat.reduceEqDiff, reduceIte, f5_18] at f5_46
                              have f6_46 := congrArg (fun q => Env.get q 6) he46
                              simp only [go_sem, Nat.reduceEqDiff, reduceIte, f6_18] at f6_46
                              have f7_46 := congrArg (fun q => Env.get q 7) he46
                              simp only [go_sem, Nat.reduceEqDiff, reduceIte, f7_18] at f7_46
                              have f8_46 := congrArg (fun q => Env.get q 8) he46
                              simp only [go_sem, Nat.reduceEqDiff, reduceIte, f8_18] at f8_46
                              have f9_46 := congrArg (fun q => Env.get q 9) he46
                              simp only [go_sem, Nat.reduceEqDiff, reduceIte, f9_18] at f9_46
                              have f10_46 := congrArg (fun q => Env.get q 10) he46
                              simp only [go_sem, Nat.reduceEqDiff, reduceIte, f10_18] at f10_46
                              clear he46 f0_18 f3_18 f4_18 f5_18 f6_18 f7_18 f8_18 f9_18 f10_18 f11_18 f80_18
                              refine W.thenN ?_
                              have tt := hj.t
                              obtain rfl : j = l.length := by omega
                              exact ⟨i + 1, by dsimp only; omega, by rw [outr_step, outr_step]; exact tt, f0_46, f3_46, f4_46, f5_46, by rw [outr_step]; exact f6_46, by rw [outr_step]; exact f7_46, f8_46, f9_46, f10_46, by omega⟩)
                       · exact ⟨by rw [inn_nil, inn_nil, List.append_nil, List.append_nil]; exact hi.t, f0_16, f3_16, f4_16, f5_16, by rw [inn_nil, List.append_nil]; exact f6_16, by rw [inn_nil, List.append_nil]; exact f7_16, f8_16, f9_16, f10_16, f11_16, by omega, by omega⟩)
                  · first
                    | (cases hc15; done)
                    | (exfalso; simp only [decide_eq_true_eq, decide_eq_false_iff_not, Bool.not_eq_true', Bool.not_eq_false', Bool.not_eq_eq_eq_not, Bool.not_true, Bool.not_false] at hc15; omega)
                    | (skip
                       try simp only [decide_eq_true_eq, decide_eq_false_iff_not, Bool.not_eq_true', Bool.not_eq_false', Bool.not_eq_eq_eq_not, Bool.not_true, Bool.not_false] at hc15
                       refine W.exit ?_
                       refine W.thenE ?_
                       refine W.thenE ?_
                       refine W.blockE ?_
                       refine W.thenN ?_
                       refine W.seq ?_
                       refine W.seq ?_
                       refine W.region (fun K hK => ?_)
                       simp (config := { maxSteps := 10000000 }) only [go_sem, ↓forkQ_true, ↓forkQ_false, ↓guardQ_some, ↓resQ_val, ↓resQ_unit, ↓resQ_enter, ↓retQ_some, ↓resFQ_val, ↓resFQ_unit, ↓resFQ_enter, ↓retFQ_some, Nat.reduceEqDiff, reduceIte, Nat.reduceAdd, Nat.reduceMul, Nat.reduceSub, reduceCtorEq, Nat.reduceLeDiff, f0_14, f3_14, f4_14, f5_14, f6_14, f7_14, f8_14, f9_14, f10_14, f72_14, t10, t12, t14, t16, t26, t27]
                       refine hK _ _ ?_
                       clear hK K
                       refine W.forget (fun e47 he47 => ?_)
                       have f0_47 := congrArg (fun q => Env.get q 0) he47
                       simp only [go_sem, Nat.reduceEqDiff, reduceIte, f0_14] at f0_47
                       have f3_47 := congrArg (fun q => Env.get q 3) he47
                       simp only [go_sem, Nat.reduceEqDiff, reduceIte, f3_14] at f3_47
                       have f4_47 := congrArg (fun q => Env.get q 4) he47
                       simp only [go_sem, Nat.reduceEqDiff, reduceIte, f4_14] at f4_47
                       have f5_47 := congrArg (fun q => Env.get q 5) he47
                       simp only [go_sem, Nat.reduceEqDiff, reduceIte, f5_14] at f5_47
                       have f6_47 := congrArg (fun q => Env.get q 6) he47
                       simp only [go_sem, Nat.reduceEqDiff, reduceIte, f6_14] at f6_47
                       have f7_47 := congrArg (fun q => Env.get q 7) he47
                       simp only [go_sem, Nat.reduceEqDiff, reduceIte, f7_14] at f7_47
                       have f8_47 := congrArg (fun q => Env.get q 8) he47
                       simp only [go_sem, Nat.reduceEqDiff, reduceIte, f8_14] at f8_47
                       have f9_47 := congrArg (fun q => Env.get q 9) he47
                       simp only [go_sem, Nat.reduceEqDiff, reduceIte, f9_14] at f9_47
                       have f165_47 := congrArg (fun q => Env.get q 165) he47
                       simp only [go_sem, Nat.reduceEqDiff, reduceIte] at f165_47
                       clear he47 f0_14 f3_14 f4_14 f5_14 f6_14 f7_14 f8_14 f9_14 f10_14 f72_14
                       refine W.thenN ?_
                       refine W.cond f165_47 (fun hc48 => ?_) (fun hc48 => ?_)
                       · first
                         | (cases hc48; done)
                         | (exfalso; simp only [decide_eq_true_eq, decide_eq_false_iff_not, Bool.not_eq_true', Bool.not_eq_false', Bool.not_eq_eq_eq_not, Bool.not_true, Bool.not_false] at hc48; omega)
                         | (skip
                            try simp only [decide_eq_true_eq, decide_eq_false_iff_not, Bool.not_eq_true', Bool.not_eq_false', Bool.not_eq_eq_eq_not, Bool.not_true, Bool.not_false] at hc48
                            refine W.seq ?_
                            refine W.regionA (fun A hA K hK => ?_)
                            have gd2 := guardAt hA (j := 2) (d := 168) rfl
                            have gd7 := guardAt hA (j := 7) (d := 173) rfl
                            have gd12 := guardAt hA (j := 12) (d := 178) rfl
                            clear hA
                            simp (config := { maxSteps := 10000000 }) only [go_sem, ↓forkQ_true, ↓forkQ_false, ↓guardQ_some, ↓resQ_val, ↓resQ_unit, ↓resQ_enter, ↓retQ_some, ↓resFQ_val, ↓resFQ_unit, ↓resFQ_enter, ↓retFQ_some, Nat.reduceEqDiff, reduceIte, Nat.reduceAdd, Nat.reduceMul, Nat.reduceSub, reduceCtorEq, Nat.reduceLeDiff, f0_47, f3_47, f4_47, f5_47, f6_47, f7_47, f8_47, f9_47, f165_47, t10, t12, t14, t16, t26, t27, gd2, gd7, gd12]
                            repeat' (first | (refine W.forkP (fun hc49 => ?_) (fun hc49 => ?_) <;> simp (config := { maxSteps := 10000000 }) only [go_sem, ↓forkQ_true, ↓forkQ_false, ↓guardQ_some, ↓resQ_val, ↓resQ_unit, ↓resQ_enter, ↓retQ_some, ↓resFQ_val, ↓resFQ_unit, ↓resFQ_enter, ↓retFQ_some, Nat.reduceEqDiff, reduceIte, Nat.reduceAdd, Nat.reduceMul, Nat.reduceSub, reduceCtorEq, Nat.reduceLeDiff, f0_47, f3_47, f4_47, f5_47, f6_47, f7_47, f8_47, f9_47, f165_47, t10, t12, t14, t16, t26, t27, gd2, gd7, gd12, hc49]) | (refine W.fork (fun hc49 => ?_) (fun hc49 => ?_) <;> simp (config := { maxSteps := 10000000 }) only [go_sem, ↓forkQ_true, ↓forkQ_false, ↓guardQ_some, ↓resQ_val, ↓resQ_unit, ↓resQ_enter, ↓retQ_some, ↓resFQ_val, ↓resFQ_unit, ↓resFQ_enter, ↓retFQ_some, Nat.reduceEqDiff, reduceIte, Nat.reduceAdd, Nat.reduceMul, Nat.reduceSub, reduceCtorEq, Nat.reduceLeDiff, f0_47, f3_47, f4_47, f5_47, f6_47, f7_47, f8_47, f9_47, f165_47, t10, t12, t14, t16, t26, t27, gd2, gd7, gd12, hc49]))
                            all_goals
                              refine hK _ _ ?_
                              clear hK K A gd2 gd7 gd12
                              refine W.forget (fun e49 he49 => ?_)
                              have f0_49 := congrArg (fun q => Env.get q 0) he49
                              simp only [go_sem, Nat.reduceEqDiff, reduceIte, f0_47] at f0_49
                              have f2_49 := congrArg (fun q => Env.get q 2) he49
                              simp only [go_sem, Nat.reduceEqDiff, reduceIte] at f2_49
                              have f3_49 := congrArg (fun q => Env.get q 3) he49
                              simp only [go_sem, Nat.reduceEqDiff, reduceIte, f3_47] at f3_49
                              have f4_49 := congrArg (fun q => Env.get q 4) he49
                              simp only [go_sem, Nat.reduceEqDiff, reduceIte, f4_47] at f4_49
                              have f6_49 := congrArg (fun q => Env.get q 6) he49
                              simp only [go_sem, Nat.reduceEqDiff, reduceIte, f6_47] at f6_49
                              have f7_49 := congrArg (fun q => Env.get q 7) he49
                              simp only [go_sem, Nat.reduceEqDiff, reduceIte, f7_47] at f7_49
                              clear he49 f0_47 f3_47 f4_47 f5_47 f6_47 f7_47 f8_47 f9_47 f165_47
                              refine W.thenN ?_
                              refine W.ret ?_
                              refine W.thenR ?_
                              rw [doneQ_ret]
                              exact ⟨[.bool true], by simp only [go_sem, ↓forkQ_true, ↓forkQ_false, ↓guardQ_some, ↓resQ_val, ↓resQ_unit, ↓resQ_enter, ↓retQ_some, ↓resFQ_val, ↓resFQ_unit, ↓resFQ_enter, ↓retFQ_some, Nat.reduceEqDiff, reduceIte, Nat.reduceAdd, Nat.reduceMul, Nat.reduceSub, reduceCtorEq, Nat.reduceLeDiff, f0_49, f2_49, f3_49, f4_49, f6_49, f7_49], rfl⟩)
                       · first
                         | (cases hc48; done)
                         | (exfalso; simp only [decide_eq_true_eq, decide_eq_false_iff_not, Bool.not_eq_true', Bool.not_eq_false', Bool.not_eq_eq_eq_not, Bool.not_true, Bool.not_false] at hc48; omega)
                         | (skip
                            try simp only [decide_eq_true_eq, decide_eq_false_iff_not, Bool.not_eq_true', Bool.not_eq_false', Bool.not_eq_eq_eq_not, Bool.not_true, Bool.not_false] at hc48
                            refine W.skip ?_
                            refine W.thenN ?_
                            refine W.seq ?_
                            refine W.regionA (fun A hA K hK => ?_)
                            have gd1 := guardAt hA (j := 1) (d := 182) rfl
                            have gd4 := guardAt hA (j := 4) (d := 185) rfl
                            have gd10 := guardAt hA (j := 10) (d := 191) rfl
                            have gd14 := guardAt hA (j := 14) (d := 195) rfl
                            clear hA
                            obtain rfl : i = l.length := by omega
                            have z3 := hi.t.z3
                            have z4 := hi.t.z4
                            have q27 := c27 n2 d2 n1 d1 (by omega) (by omega)
                            rw [hle2] at q27
                            have q16 := c16 l a c k1 (hg.ext ex) hl
                            simp (config := { maxSteps := 10000000 }) only [go_sem, ↓forkQ_true, ↓forkQ_false, ↓guardQ_some, ↓resQ_val, ↓resQ_unit, ↓resQ_enter, ↓retQ_some, ↓resFQ_val, ↓resFQ_unit, ↓resFQ_enter, ↓retFQ_some, Nat.reduceEqDiff, reduceIte, Nat.reduceAdd, Nat.reduceMul, Nat.reduceSub, reduceCtorEq, Nat.reduceLeDiff, f0_47, f3_47, f4_47, f5_47, f6_47, f7_47, f8_47, f9_47, f165_47, t10, t12, t14, t16, t26, t27, hlo, hhi, z3, z4, q27, q16, hpass, cfT_at, gd1, gd4, gd10, gd14]
                            repeat' (first | (refine W.forkP (fun hc50 => ?_) (fun hc50 => ?_) <;> simp (config := { maxSteps := 10000000 }) only [go_sem, ↓forkQ_true, ↓forkQ_false, ↓guardQ_some, ↓resQ_val, ↓resQ_unit, ↓resQ_enter, ↓retQ_some, ↓resFQ_val, ↓resFQ_unit, ↓resFQ_enter, ↓retFQ_some, Nat.reduceEqDiff, reduceIte, Nat.reduceAdd, Nat.reduceMul, Nat.reduceSub, reduceCtorEq, Nat.reduceLeDiff, f0_47, f3_47, f4_47, f5_47, f6_47, f7_47, f8_47, f9_47, f165_47, t10, t12, t14, t16, t26, t27, hlo, hhi, z3, z4, q27, q16, hpass, cfT_at, gd1, gd4, gd10, gd14, hc50]) | (refine W.fork (fun hc50 => ?_) (fun hc50 => ?_) <;> simp (config := { maxSteps := 10000000 }) only [go_sem, ↓forkQ_true, ↓forkQ_false, ↓guardQ_some, ↓resQ_val, ↓resQ_unit, ↓resQ_enter, ↓retQ_some, ↓resFQ_val, ↓resFQ_unit, ↓resFQ_enter, ↓retFQ_some, Nat.reduceEqDiff, reduceIte, Nat.reduceAdd, Nat.reduceMul, Nat.reduceSub, reduceCtorEq, Nat.reduceLeDiff, f0_47, f3_47, f4_47, f5_47, f6_47, f7_47, f8_47, f9_47, f165_47, t10, t12, t14, t16, t26, t27, hlo, hhi, z3, z4, q27, q16, hpass, cfT_at, gd1, gd4, gd10, gd14, hc50]))
                            all_goals
                              refine hK _ _ ?_
                              clear hK K A gd1 gd4 gd10 gd14
                              refine W.forget (fun e50 he50 => ?_)
                              have f2_50 := congrArg (fun q => Env.get q 2) he50
                              simp only [go_sem, Nat.reduceEqDiff, reduceIte] at f2_50
                              clear he50 f0_47 f3_47 f4_47 f5_47 f6_47 f7_47 f8_47 f9_47 f165_47
                              refine W.thenN ?_
                              refine W.ret ?_
                              rw [doneQ_ret]
                              exact ⟨[.bool true], by simp only [go_sem, ↓forkQ_true, ↓forkQ_false, ↓guardQ_some, ↓resQ_val, ↓resQ_unit, ↓resQ_enter, ↓retQ_some, ↓resFQ_val, ↓resFQ_unit, ↓resFQ_enter, ↓retFQ_some, Nat.reduceEqDiff, reduceIte, Nat.reduceAdd, Nat.reduceMul, Nat.reduceSub, reduceCtorEq, Nat.reduceLeDiff, f2_50], rfl⟩))
                · exact ⟨t7, f0_12, f3_12, f4_12, f5_12, f6_12, f7_12, f8_12, f9_12, f10_12, Nat.zero_le _⟩))
theorem w7_none (l : List Gt) (a : Option Addr) (c : Nat) (h : Heap) (hg : GA h l a) (o : Ok l) (hl : l.length ≤ 24) (h2 : 2 ≤ l.length) (n1 d1 n2 d2 : Int)
    (q12 : callW Try.prog SkH 12 [.slice a l.length c] (h.low h.next) = some (.tuple #[.agg #[.int .i64 n1, .int .i64 d1], .agg #[.int .i64 n2, .int .i64 d2], .int .i64 11], h.low h.next, true)) (hle2 : lessZ (grtF (outr (rgP l) l.length l.length)).1 (grtF (outr (rgP l) l.length l.length)).2 (lstF (outr (rlP l) l.length l.length)).1 (lstF (outr (rlP l) l.length l.length)).2 = true) (hpass : passP l = false) :
    ∃ code, Try.f7.body = some code ∧ Wp Try.prog cfT (SkH 7) code (doneQ Try.prog Try.f7.results.toList (fun vs _ => vs = [.bool true])) (Env.ofList [.slice a l.length c] 0) (h.low h.next) := by
  refine ⟨_, rfl, ?_⟩
  show Wp Try.prog cfT (SkH 7) _ (doneQ Try.prog [.tmp 2] _) _ _
  have t10 : cfT 10 = callW Try.prog SkH 10 := cfT_ne (by decide)
  have t12 : cfT 12 = callW Try.prog SkH 12 := cfT_ne (by decide)
  have t14 : cfT 14 = callW Try.prog SkH 14 := cfT_ne (by decide)
  have t16 : cfT 16 = callW Try.prog SkH 16 := cfT_ne (by decide)
  have t26 : cfT 26 = callW Try.prog SkH 26 := cfT_ne (by decide)
  have t27 : cfT 27 = callW Try.prog SkH 27 := cfT_ne (by decide)
  have hf : ((l.length : Int) ≤ 24) = True := eq_true (by omega)
  have hz := (checkZ_ok l).2 o
  have h2f : ((l.length : Int) < 2) = False := eq_false (by omega)
  have q14 := c14 l a c (h.low h.next) (hg.ext (Ext.low h)) hl
  have k11 : ((11 : Int) = 0) = False := eq_false (by decide)
  refine W.forget (fun e1 he1 => ?_)
  have f0_1 := congrArg (fun q => Env.get q 0) he1
  simp only [ofList_cons, ofList_nil, go_sem, Nat.reduceEqDiff, reduceIte] at f0_1
  clear he1
  refine W.seq ?_
  refine W.region (fun K hK => ?_)
  simp (config := { maxSteps := 10000000 }) only [go_sem, ↓forkQ_true, ↓forkQ_false, ↓guardQ_some, ↓resQ_val, ↓resQ_unit, ↓resQ_enter, ↓retQ_some, ↓resFQ_val, ↓resFQ_unit, ↓resFQ_enter, ↓retFQ_some, Nat.reduceEqDiff, reduceIte, Nat.reduceAdd, Nat.reduceMul, Nat.reduceSub, reduceCtorEq, Nat.reduceLeDiff, f0_1, t10, t12, t14, t16, t26, t27]
  refine hK _ _ ?_
  clear hK K
  refine W.forget (fun e2 he2 => ?_)
  have f0_2 := congrArg (fun q => Env.get q 0) he2
  simp only [go_sem, Nat.reduceEqDiff, reduceIte, f0_1] at f0_2
  have f2_2 := congrArg (fun q => Env.get q 2) he2
  simp only [go_sem, Nat.reduceEqDiff, reduceIte] at f2_2
  clear he2 f0_1
  refine W.thenN ?_
  refine W.seq ?_
  refine W.seq ?_
  refine W.regionA (fun A hA K hK => ?_)
  have gd3 := guardAt hA (j := 3) (d := 18) rfl
  have gd8 := guardAt hA (j := 8) (d := 23) rfl
  clear hA
  simp (config := { maxSteps := 10000000 }) only [go_sem, ↓forkQ_true, ↓forkQ_false, ↓guardQ_some, ↓resQ_val, ↓resQ_unit, ↓resQ_enter, ↓retQ_some, ↓resFQ_val, ↓resFQ_unit, ↓resFQ_enter, ↓retFQ_some, Nat.reduceEqDiff, reduceIte, Nat.reduceAdd, Nat.reduceMul, Nat.reduceSub, reduceCtorEq, Nat.reduceLeDiff, f0_2, f2_2, t10, t12, t14, t16, t26, t27, c10, hf, q14, hz, h2f, gd3, gd8]
  repeat' (first | (refine W.forkP (fun hc3 => ?_) (fun hc3 => ?_) <;> simp (config := { maxSteps := 10000000 }) only [go_sem, ↓forkQ_true, ↓forkQ_false, ↓guardQ_some, ↓resQ_val, ↓resQ_unit, ↓resQ_enter, ↓retQ_some, ↓resFQ_val, ↓resFQ_unit, ↓resFQ_enter, ↓retFQ_some, Nat.reduceEqDiff, reduceIte, Nat.reduceAdd, Nat.reduceMul, Nat.reduceSub, reduceCtorEq, Nat.reduceLeDiff, f0_2, f2_2, t10, t12, t14, t16, t26, t27, c10, hf, q14, hz, h2f, gd3, gd8, hc3]) | (refine W.fork (fun hc3 => ?_) (fun hc3 => ?_) <;> simp (config := { maxSteps := 10000000 }) only [go_sem, ↓forkQ_true, ↓forkQ_false, ↓guardQ_some, ↓resQ_val, ↓resQ_unit, ↓resQ_enter, ↓retQ_some, ↓resFQ_val, ↓resFQ_unit, ↓resFQ_enter, ↓retFQ_some, Nat.reduceEqDiff, reduceIte, Nat.reduceAdd, Nat.reduceMul, Nat.reduceSub, reduceCtorEq, Nat.reduceLeDiff, f0_2, f2_2, t10, t12, t14, t16, t26, t27, c10, hf, q14, hz, h2f, gd3, gd8, hc3]))
  all_goals
    refine hK _ _ ?_
    clear hK K A gd3 gd8
    refine W.forget (fun e3 he3 => ?_)
    have f0_3 := congrArg (fun q => Env.get q 0) he3
    simp only [go_sem, Nat.reduceEqDiff, reduceIte, f0_2] at f0_3
    have f2_3 := congrArg (fun q => Env.get q 2) he3
    simp only [go_sem, Nat.reduceEqDiff, reduceIte, f2_2] at f2_3
    have f27_3 := congrArg (fun q => Env.get q 27) he3
    simp only [go_sem, Nat.reduceEqDiff, reduceIte] at f27_3
    clear he3 f0_2 f2_2
    refine W.thenN ?_
    refine W.cond f27_3 (fun hc4 => ?_) (fun hc4 => ?_)
    · first
      | (cases hc4; done)
      | (exfalso; simp only [decide_eq_true_eq, decide_eq_false_iff_not, Bool.not_eq_true', Bool.not_eq_false', Bool.not_eq_eq_eq_not, Bool.not_true, Bool.not_false] at hc4; omega)
      | (skip
         try simp only [decide_eq_true_eq, decide_eq_false_iff_not, Bool.not_eq_true', Bool.not_eq_false', Bool.not_eq_eq_eq_not, Bool.not_true, Bool.not_false] at hc4
         refine W.seq ?_
         refine W.region (fun K hK => ?_)
         simp (config := { maxSteps := 10000000 }) only [go_sem, ↓forkQ_true, ↓forkQ_false, ↓guardQ_some, ↓resQ_val, ↓resQ_unit, ↓resQ_enter, ↓retQ_some, ↓resFQ_val, ↓resFQ_unit, ↓resFQ_enter, ↓retFQ_some, Nat.reduceEqDiff, reduceIte, Nat.reduceAdd, Nat.reduceMul, Nat.reduceSub, reduceCtorEq, Nat.reduceLeDiff, f0_3, f2_3, f27_3, t10, t12, t14, t16, t26, t27, c10, hf, q14, hz, h2f]
         refine hK _ _ ?_
         clear hK K
         refine W.forget (fun e5 he5 => ?_)
         have f0_5 := congrArg (fun q => Env.get q 0) he5
         simp only [go_sem, Nat.reduceEqDiff, reduceIte, f0_3] at f0_5
         have f2_5 := congrArg (fun q => Env.get q 2) he5
         simp only [go_sem, Nat.reduceEqDiff, reduceIte, f2_3] at f2_5
         clear he5 f0_3 f2_3 f27_3
         refine W.thenN ?_
         refine W.ret ?_
         refine W.thenR ?_
         rw [doneQ_ret]
         exact ⟨[.bool true], by simp only [go_sem, ↓forkQ_true, ↓forkQ_false, ↓guardQ_some, ↓resQ_val, ↓resQ_unit, ↓resQ_enter, ↓retQ_some, ↓resFQ_val, ↓resFQ_unit, ↓resFQ_enter, ↓retFQ_some, Nat.reduceEqDiff, reduceIte, Nat.reduceAdd, Nat.reduceMul, Nat.reduceSub, reduceCtorEq, Nat.reduceLeDiff, f0_5, f2_5], rfl⟩)
    · first
      | (cases hc4; done)
      | (exfalso; simp only [decide_eq_true_eq, decide_eq_false_iff_not, Bool.not_eq_true', Bool.not_eq_false', Bool.not_eq_eq_eq_not, Bool.not_true, Bool.not_false] at hc4; omega)
      | (skip
         try simp only [decide_eq_true_eq, decide_eq_false_iff_not, Bool.not_eq_true', Bool.not_eq_false', Bool.not_eq_eq_eq_not, Bool.not_true, Bool.not_false] at hc4
         refine W.skip ?_
         refine W.thenN ?_
         refine W.seq ?_
         refine W.region (fun K hK => ?_)
         simp (config := { maxSteps := 10000000 }) only [go_sem, ↓forkQ_true, ↓forkQ_false, ↓guardQ_some, ↓resQ_val, ↓resQ_unit, ↓resQ_enter, ↓retQ_some, ↓resFQ_val, ↓resFQ_unit, ↓resFQ_enter, ↓retFQ_some, Nat.reduceEqDiff, reduceIte, Nat.reduceAdd, Nat.reduceMul, Nat.reduceSub, reduceCtorEq, Nat.reduceLeDiff, f0_3, f2_3, f27_3, t10, t12, t14, t16, t26, t27, c10, hf, q14, hz, h2f, q12]
         refine hK _ _ ?_
         clear hK K
         refine W.forget (fun e6 he6 => ?_)
         have f0_6 := congrArg (fun q => Env.get q 0) he6
         simp only [go_sem, Nat.reduceEqDiff, reduceIte, f0_3] at f0_6
         have f2_6 := congrArg (fun q => Env.get q 2) he6
         simp only [go_sem, Nat.reduceEqDiff, reduceIte, f2_3] at f2_6
         have f3_6 := congrArg (fun q => Env.get q 3) he6
         simp only [go_sem, Nat.reduceEqDiff, reduceIte] at f3_6
         have f4_6 := congrArg (fun q => Env.get q 4) he6
         simp only [go_sem, Nat.reduceEqDiff, reduceIte] at f4_6
         have f5_6 := congrArg (fun q => Env.get q 5) he6
         simp only [go_sem, Nat.reduceEqDiff, reduceIte] at f5_6
         clear he6 f0_3 f2_3 f27_3
         refine W.thenN ?_
         refine W.seq ?_
         refine W.seq ?_
         refine W.regionA (fun A hA K hK => ?_)
         have gd2 := guardAt hA (j := 2) (d := 37) rfl
         have gd6 := guardAt hA (j := 6) (d := 41) rfl
         have gd11 := guardAt hA (j := 11) (d := 46) rfl
         have gd16 := guardAt hA (j := 16) (d := 51) rfl
         have gd21 := guardAt hA (j := 21) (d := 56) rfl
         have gd26 := guardAt hA (j := 26) (d := 61) rfl
         clear hA
         simp (config := { maxSteps := 10000000 }) only [go_sem, ↓forkQ_true, ↓forkQ_false, ↓guardQ_some, ↓resQ_val, ↓resQ_unit, ↓resQ_enter, ↓retQ_some, ↓resFQ_val, ↓resFQ_unit, ↓resFQ_enter, ↓retFQ_some, Nat.reduceEqDiff, reduceIte, Nat.reduceAdd, Nat.reduceMul, Nat.reduceSub, reduceCtorEq, Nat.reduceLeDiff, f0_6, f2_6, f3_6, f4_6, f5_6, t10, t12, t14, t16, t26, t27, c10, hf, q14, hz, h2f, q12, k11, gd2, gd6, gd11, gd16, gd21, gd26]
         repeat' (first | (refine W.forkP (fun hc7 => ?_) (fun hc7 => ?_) <;> simp (config := { maxSteps := 10000000 }) only [go_sem, ↓forkQ_true, ↓forkQ_false, ↓guardQ_some, ↓resQ_val, ↓resQ_unit, ↓resQ_enter, ↓retQ_some, ↓resFQ_val, ↓resFQ_unit, ↓resFQ_enter, ↓retFQ_some, Nat.reduceEqDiff, reduceIte, Nat.reduceAdd, Nat.reduceMul, Nat.reduceSub, reduceCtorEq, Nat.reduceLeDiff, f0_6, f2_6, f3_6, f4_6, f5_6, t10, t12, t14, t16, t26, t27, c10, hf, q14, hz, h2f, q12, k11, gd2, gd6, gd11, gd16, gd21, gd26, hc7]) | (refine W.fork (fun hc7 => ?_) (fun hc7 => ?_) <;> simp (config := { maxSteps := 10000000 }) only [go_sem, ↓forkQ_true, ↓forkQ_false, ↓guardQ_some, ↓resQ_val, ↓resQ_unit, ↓resQ_enter, ↓retQ_some, ↓resFQ_val, ↓resFQ_unit, ↓resFQ_enter, ↓retFQ_some, Nat.reduceEqDiff, reduceIte, Nat.reduceAdd, Nat.reduceMul, Nat.reduceSub, reduceCtorEq, Nat.reduceLeDiff, f0_6, f2_6, f3_6, f4_6, f5_6, t10, t12, t14, t16, t26, t27, c10, hf, q14, hz, h2f, q12, k11, gd2, gd6, gd11, gd16, gd21, gd26, hc7]))
         all_goals
           refine hK _ _ ?_
           clear hK K A gd2 gd6 gd11 gd16 gd21 gd26
           refine W.forget (fun e7 he7 => ?_)
           have f0_7 := congrArg (fun q => Env.get q 0) he7
           simp only [go_sem, Nat.reduceEqDiff, reduceIte, f0_6] at f0_7
           have f2_7 := congrArg (fun q => Env.get q 2) he7
           simp only [go_sem, Nat.reduceEqDiff, reduceIte, f2_6] at f2_7
           have f3_7 := congrArg (fun q => Env.get q 3) he7
           simp only [go_sem, Nat.reduceEqDiff, reduceIte, f3_6] at f3_7
           have f4_7 := congrArg (fun q => Env.get q 4) he7
           simp only [go_sem, Nat.reduceEqDiff, reduceIte, f4_6] at f4_7
           have f5_7 := congrArg (fun q => Env.get q 5) he7
           simp only [go_sem, Nat.reduceEqDiff, reduceIte, f5_6] at f5_7
           have f66_7 := congrArg (fun q => Env.get q 66) he7
           simp only [go_sem, Nat.reduceEqDiff, reduceIte] at f66_7
           clear he7 f0_6 f2_6 f3_6 f4_6 f5_6
           refine W.thenN ?_
           refine W.cond f66_7 (fun hc8 => ?_) (fun hc8 => ?_)
           · first
             | (cases hc8; done)
             | (exfalso; simp only [decide_eq_true_eq, decide_eq_false_iff_not, Bool.not_eq_true', Bool.not_eq_false', Bool.not_eq_eq_eq_not, Bool.not_true, Bool.not_false] at hc8; omega)
             | (skip
                try simp only [decide_eq_true_eq, decide_eq_false_iff_not, Bool.not_eq_true', Bool.not_eq_false', Bool.not_eq_eq_eq_not, Bool.not_true, Bool.not_false] at hc8
                refine W.seq ?_
                refine W.region (fun K hK => ?_)
                simp (config := { maxSteps := 10000000 }) only [go_sem, ↓forkQ_true, ↓forkQ_false, ↓guardQ_some, ↓resQ_val, ↓resQ_unit, ↓resQ_enter, ↓retQ_some, ↓resFQ_val, ↓resFQ_unit, ↓resFQ_enter, ↓retFQ_some, Nat.reduceEqDiff, reduceIte, Nat.reduceAdd, Nat.reduceMul, Nat.reduceSub, reduceCtorEq, Nat.reduceLeDiff, f0_7, f2_7, f3_7, f4_7, f5_7, f66_7, t10, t12, t14, t16, t26, t27, c10, hf, q14, hz, h2f, q12, k11]
                refine hK _ _ ?_
                clear hK K
                refine W.forget (fun e9 he9 => ?_)
                have f0_9 := congrArg (fun q => Env.get q 0) he9
                simp only [go_sem, Nat.reduceEqDiff, reduceIte, f0_7] at f0_9
                have f2_9 := congrArg (fun q => Env.get q 2) he9
                simp only [go_sem, Nat.reduceEqDiff, reduceIte, f2_7] at f2_9
                have f3_9 := congrArg (fun q => Env.get q 3) he9
                simp only [go_sem, Nat.reduceEqDiff, reduceIte, f3_7] at f3_9
                have f4_9 := congrArg (fun q => Env.get q 4) he9
                simp only [go_sem, Nat.reduceEqDiff, reduceIte, f4_7] at f4_9
                have f5_9 := congrArg (fun q => Env.get q 5) he9
                simp only [go_sem, Nat.reduceEqDiff, reduceIte, f5_7] at f5_9
                clear he9 f0_7 f2_7 f3_7 f4_7 f5_7 f66_7
                refine W.thenN ?_
                refine W.ret ?_
                refine W.thenR ?_
                rw [doneQ_ret]
                exact ⟨[.bool true], by simp only [go_sem, ↓forkQ_true, ↓forkQ_false, ↓guardQ_some, ↓resQ_val, ↓resQ_unit, ↓resQ_enter, ↓retQ_some, ↓resFQ_val, ↓resFQ_unit, ↓resFQ_enter, ↓retFQ_some, Nat.reduceEqDiff, reduceIte, Nat.reduceAdd, Nat.reduceMul, Nat.reduceSub, reduceCtorEq, Nat.reduceLeDiff, f0_9, f2_9, f3_9, f4_9, f5_9], rfl⟩)
           · first
             | (cases hc8; done)
             | (exfalso; simp only [decide_eq_true_eq, decide_eq_false_iff_not, Bool.not_eq_true', Bool.not_eq_false', Bool.not_eq_eq_eq_not, Bool.not_true, Bool.not_false] at hc8; omega)
             | (skip
                try simp only [decide_eq_true_eq, decide_eq_false_iff_not, Bool.not_eq_true', Bool.not_eq_false', Bool.not_eq_eq_eq_not, Bool.not_true, Bool.not_false] at hc8
                refine W.skip ?_
                refine W.thenN ?_
                refine W.seq ?_
                refine W.region (fun K hK => ?_)
                simp (config := { maxSteps := 10000000 }) only [go_sem, ↓forkQ_true, ↓forkQ_false, ↓guardQ_some, ↓resQ_val, ↓resQ_unit, ↓resQ_enter, ↓retQ_some, ↓resFQ_val, ↓resFQ_unit, ↓resFQ_enter, ↓retFQ_some, Nat.reduceEqDiff, reduceIte, Nat.reduceAdd, Nat.reduceMul, Nat.reduceSub, reduceCtorEq, Nat.reduceLeDiff, f0_7, f2_7, f3_7, f4_7, f5_7, f66_7, t10, t12, t14, t16, t26, t27, c10, hf, q14, hz, h2f, q12, k11]
                refine hK _ _ ?_
                clear hK K
                refine W.forget (fun e10 he10 => ?_)
                have f0_10 := congrArg (fun q => Env.get q 0) he10
                simp only [go_sem, Nat.reduceEqDiff, reduceIte, f0_7] at f0_10
                have f2_10 := congrArg (fun q => Env.get q 2) he10
                simp only [go_sem, Nat.reduceEqDiff, reduceIte, f2_7] at f2_10
                have f3_10 := congrArg (fun q => Env.get q 3) he10
                simp only [go_sem, Nat.reduceEqDiff, reduceIte, f3_7] at f3_10
                have f4_10 := congrArg (fun q => Env.get q 4) he10
                simp only [go_sem, Nat.reduceEqDiff, reduceIte, f4_7] at f4_10
                have f5_10 := congrArg (fun q => Env.get q 5) he10
                simp only [go_sem, Nat.reduceEqDiff, reduceIte, f5_7] at f5_10
                have f6_10 := congrArg (fun q => Env.get q 6) he10
                simp only [go_sem, Nat.reduceEqDiff, reduceIte] at f6_10
                have f7_10 := congrArg (fun q => Env.get q 7) he10
                simp only [go_sem, Nat.reduceEqDiff, reduceIte] at f7_10
                clear he10 f0_7 f2_7 f3_7 f4_7 f5_7 f66_7
                refine W.thenN ?_
                refine W.seq ?_
                refine W.region (fun K hK => ?_)
                simp (config := { maxSteps := 10000000 }) only [go_sem, ↓forkQ_true, ↓forkQ_false, ↓guardQ_some, ↓resQ_val, ↓resQ_unit, ↓resQ_enter, ↓retQ_some, ↓resFQ_val, ↓resFQ_unit, ↓resFQ_enter, ↓retFQ_some, Nat.reduceEqDiff, reduceIte, Nat.reduceAdd, Nat.reduceMul, Nat.reduceSub, reduceCtorEq, Nat.reduceLeDiff, f0_10, f2_10, f3_10, f4_10, f5_10, f6_10, f7_10, t10, t12, t14, t16, t26, t27, c10, hf, q14, hz, h2f, q12, k11]
                refine hK _ _ ?_
                clear hK K
                refine W.forget (fun e11 he11 => ?_)
                refine W.forgetH (fun k7 hk11 => ?_)
                have t7 : Tw h k7 n1 d1 n2 d2 (-1099511627776, 1) (1099511627776, 1) := by rw [hk11]; exact ⟨((((((((Ext.low h).alloc _).alloc _).set (Nat.le_refl _) _).set (Nat.le_succ _) _).alloc _).alloc _).set (by first | omega | (show h.next ≤ h.next + 1 + 1; omega)) _).set (by first | omega | (show h.next ≤ h.next + 1 + 1 + 1; omega)) _, Nat.le_refl _, by simp only [go_sem, ↓forkQ_true, ↓forkQ_false, ↓guardQ_some, ↓resQ_val, ↓resQ_unit, ↓resQ_enter, ↓retQ_some, ↓resFQ_val, ↓resFQ_unit, ↓resFQ_enter, ↓retFQ_some, Nat.reduceEqDiff, reduceIte, Nat.reduceAdd, Nat.reduceMul, Nat.reduceSub, reduceCtorEq, Nat.reduceLeDiff], by simp only [go_sem, ↓forkQ_true, ↓forkQ_false, ↓guardQ_some, ↓resQ_val, ↓resQ_unit, ↓resQ_enter, ↓retQ_some, ↓resFQ_val, ↓resFQ_unit, ↓resFQ_enter, ↓retFQ_some, Nat.reduceEqDiff, reduceIte, Nat.reduceAdd, Nat.reduceMul, Nat.reduceSub, reduceCtorEq, Nat.reduceLeDiff], by simp only [go_sem, ↓forkQ_true, ↓forkQ_false, ↓guardQ_some, ↓resQ_val, ↓resQ_unit, ↓resQ_enter, ↓retQ_some, ↓resFQ_val, ↓resFQ_unit, ↓resFQ_enter, ↓retFQ_some, Nat.reduceEqDiff, reduceIte, Nat.reduceAdd, Nat.reduceMul, Nat.reduceSub, reduceCtorEq, Nat.reduceLeDiff], by simp only [go_sem, ↓forkQ_true, ↓forkQ_false, ↓guardQ_some, ↓resQ_val, ↓resQ_unit, ↓resQ_enter, ↓retQ_some, ↓resFQ_val, ↓resFQ_unit, ↓resFQ_enter, ↓retFQ_some, Nat.reduceEqDiff, reduceIte, Nat.reduceAdd, Nat.reduceMul, Nat.reduceSub, reduceCtorEq, Nat.reduceLeDiff], by decide, by decide⟩
                clear hk11
                have f0_11 := congrArg (fun q => Env.get q 0) he11
                simp only [go_sem, Nat.reduceEqDiff, reduceIte, f0_10] at f0_11
                have f2_11 := congrArg (fun q => Env.get q 2) he11
                simp only [go_sem, Nat.reduceEqDiff, reduceIte, f2_10] at f2_11
                have f3_11 := congrArg (fun q => Env.get q 3) he11
                simp only [go_sem, Nat.reduceEqDiff, reduceIte, f3_10] at f3_11
                have f4_11 := congrArg (fun q => Env.get q 4) he11
                simp only [go_sem, Nat.reduceEqDiff, reduceIte, f4_10] at f4_11
                have f5_11 := congrArg (fun q => Env.get q 5) he11
                simp only [go_sem, Nat.reduceEqDiff, reduceIte, f5_10] at f5_11
                have f6_11 := congrArg (fun q => Env.get q 6) he11
                simp only [go_sem, Nat.reduceEqDiff, reduceIte, f6_10] at f6_11
                have f7_11 := congrArg (fun q => Env.get q 7) he11
                simp only [go_sem, Nat.reduceEqDiff, reduceIte, f7_10] at f7_11
                have f8_11 := congrArg (fun q => Env.get q 8) he11
                simp only [go_sem, Nat.reduceEqDiff, reduceIte] at f8_11
                have f9_11 := congrArg (fun q => Env.get q 9) he11
                simp only [go_sem, Nat.reduceEqDiff, reduceIte] at f9_11
                clear he11 f0_10 f2_10 f3_10 f4_10 f5_10 f6_10 f7_10
                refine W.thenN ?_
                refine W.seq ?_
                refine W.seq ?_
                refine W.region (fun K hK => ?_)
                simp (config := { maxSteps := 10000000 }) only [go_sem, ↓forkQ_true, ↓forkQ_false, ↓guardQ_some, ↓resQ_val, ↓resQ_unit, ↓resQ_enter, ↓retQ_some, ↓resFQ_val, ↓resFQ_unit, ↓resFQ_enter, ↓retFQ_some, Nat.reduceEqDiff, reduceIte, Nat.reduceAdd, Nat.reduceMul, Nat.reduceSub, reduceCtorEq, Nat.reduceLeDiff, f0_11, f2_11, f3_11, f4_11, f5_11, f6_11, f7_11, f8_11, f9_11, t10, t12, t14, t16, t26, t27, c10, hf, q14, hz, h2f, q12, k11]
                refine hK _ _ ?_
                clear hK K
                refine W.forget (fun e12 he12 => ?_)
                have f0_12 := congrArg (fun q => Env.get q 0) he12
                simp only [go_sem, Nat.reduceEqDiff, reduceIte, f0_11] at f0_12
                have f2_12 := congrArg (fun q => Env.get q 2) he12
                simp only [go_sem, Nat.reduceEqDiff, reduceIte, f2_11] at f2_12
                have f3_12 := congrArg (fun q => Env.get q 3) he12
                simp only [go_sem, Nat.reduceEqDiff, reduceIte, f3_11] at f3_12
                have f4_12 := congrArg (fun q => Env.get q 4) he12
                simp only [go_sem, Nat.reduceEqDiff, reduceIte, f4_11] at f4_12
                have f5_12 := congrArg (fun q => Env.get q 5) he12
                simp only [go_sem, Nat.reduceEqDiff, reduceIte, f5_11] at f5_12
                have f6_12 := congrArg (fun q => Env.get q 6) he12
                simp only [go_sem, Nat.reduceEqDiff, reduceIte, f6_11] at f6_12
                have f7_12 := congrArg (fun q => Env.get q 7) he12
                simp only [go_sem, Nat.reduceEqDiff, reduceIte, f7_11] at f7_12
                have f8_12 := congrArg (fun q => Env.get q 8) he12
                simp only [go_sem, Nat.reduceEqDiff, reduceIte, f8_11] at f8_12
                have f9_12 := congrArg (fun q => Env.get q 9) he12
                simp only [go_sem, Nat.reduceEqDiff, reduceIte, f9_11] at f9_12
                have f10_12 := congrArg (fun q => Env.get q 10) he12
                simp only [go_sem, Nat.reduceEqDiff, reduceIte] at f10_12
                clear he12 f0_11 f2_11 f3_11 f4_11 f5_11 f6_11 f7_11 f8_11 f9_11
                refine W.thenN ?_
                refine W.block ?_
                refine wq_rounds (fun i => l.length - i) (I7 l a c h 11 n1 d1 n2 d2 (fun _ => false) (fun _ => false)) ?_ 0 _ _ ?_
                · intro i e13 k1 hi
                  have f0_13 := hi.e0
                  have f3_13 := hi.e3
                  have f4_13 := hi.e4
                  have f5_13 := hi.e5
                  have f6_13 := hi.e6
                  have f7_13 := hi.e7
                  have f8_13 := hi.e8
                  have f9_13 := hi.e9
                  have f10_13 := hi.e10
                  have ex := hi.t.ex
                  have hle := hi.le
                  have hadd : wrapF .i64 ((i : Int) + 1) = ((i + 1 : Nat) : Int) := by rw [w64_in _ (by omega)]; omega
                  refine W.seq ?_
                  refine W.seq ?_
                  refine W.region (fun K hK => ?_)
                  simp (config := { maxSteps := 10000000 }) only [go_sem, ↓forkQ_true, ↓forkQ_false, ↓guardQ_some, ↓resQ_val, ↓resQ_unit, ↓resQ_enter, ↓retQ_some, ↓resFQ_val, ↓resFQ_unit, ↓resFQ_enter, ↓retFQ_some, Nat.reduceEqDiff, reduceIte, Nat.reduceAdd, Nat.reduceMul, Nat.reduceSub, reduceCtorEq, Nat.reduceLeDiff, f0_13, f3_13, f4_13, f5_13, f6_13, f7_13, f8_13, f9_13, f10_13, t10, t12, t14, t16, t26, t27, hadd]
                  refine hK _ _ ?_
                  clear hK K
                  refine W.forget (fun e14 he14 => ?_)
                  have f0_14 := congrArg (fun q => Env.get q 0) he14
                  simp only [go_sem, Nat.reduceEqDiff, reduceIte, f0_13] at f0_14
                  have f3_14 := congrArg (fun q => Env.get q 3) he14
                  simp only [go_sem, Nat.reduceEqDiff, reduceIte, f3_13] at f3_14
                  have f4_14 := congrArg (fun q => Env.get q 4) he14
                  simp only [go_sem, Nat.reduceEqDiff, reduceIte, f4_13] at f4_14
                  have f5_14 := congrArg (fun q => Env.get q 5) he14
                  simp only [go_sem, Nat.reduceEqDiff, reduceIte, f5_13] at f5_14
                  have f6_14 := congrArg (fun q => Env.get q 6) he14
                  simp only [go_sem, Nat.reduceEqDiff, reduceIte, f6_13] at f6_14
                  have f7_14 := congrArg (fun q => Env.get q 7) he14
                  simp only [go_sem, Nat.reduceEqDiff, reduceIte, f7_13] at f7_14
                  have f8_14 := congrArg (fun q => Env.get q 8) he14
                  simp only [go_sem, Nat.reduceEqDiff, reduceIte, f8_13] at f8_14
                  have f9_14 := congrArg (fun q => Env.get q 9) he14
                  simp only [go_sem, Nat.reduceEqDiff, reduceIte, f9_13] at f9_14
                  have f10_14 := congrArg (fun q => Env.get q 10) he14
                  simp only [go_sem, Nat.reduceEqDiff, reduceIte, f10_13] at f10_14
                  have f72_14 := congrArg (fun q => Env.get q 72) he14
                  simp only [go_sem, Nat.reduceEqDiff, reduceIte] at f72_14
                  clear he14 f0_13 f3_13 f4_13 f5_13 f6_13 f7_13 f8_13 f9_13 f10_13
                  refine W.thenN ?_
                  refine W.cond f72_14 (fun hc15 => ?_) (fun hc15 => ?_)
                  · first
                    | (cases hc15; done)
                    | (exfalso; simp only [decide_eq_true_eq, decide_eq_false_iff_not, Bool.not_eq_true', Bool.not_eq_false', Bool.not_eq_eq_eq_not, Bool.not_true, Bool.not_false] at hc15; omega)
                    | (skip
                       try simp only [decide_eq_true_eq, decide_eq_false_iff_not, Bool.not_eq_true', Bool.not_eq_false', Bool.not_eq_eq_eq_not, Bool.not_true, Bool.not_false] at hc15
                       refine W.skip ?_
                       refine W.thenN ?_
                       refine W.seq ?_
                       refine W.block ?_
                       refine W.seq ?_
                       refine W.region (fun K hK => ?_)
                       simp (config := { maxSteps := 10000000 }) only [go_sem, ↓forkQ_true, ↓forkQ_false, ↓guardQ_some, ↓resQ_val, ↓resQ_unit, ↓resQ_enter, ↓retQ_some, ↓resFQ_val, ↓resFQ_unit, ↓resFQ_enter, ↓retFQ_some, Nat.reduceEqDiff, reduceIte, Nat.reduceAdd, Nat.reduceMul, Nat.reduceSub, reduceCtorEq, Nat.reduceLeDiff, f0_14, f3_14, f4_14, f5_14, f6_14, f7_14, f8_14, f9_14, f10_14, f72_14, t10, t12, t14, t16, t26, t27, hadd]
                       refine hK _ _ ?_
                       clear hK K
                       refine W.forget (fun e16 he16 => ?_)
                       have f0_16 := congrArg (fun q => Env.get q 0) he16
                       simp only [go_sem, Nat.reduceEqDiff, reduceIte, f0_14] at f0_16
                       have f3_16 := congrArg (fun q => Env.get q 3) he16
                       simp only [go_sem, Nat.reduceEqDiff, reduceIte, f3_14] at f3_16
                       have f4_16 := congrArg (fun q => Env.get q 4) he16
                       simp only [go_sem, Nat.reduceEqDiff, reduceIte, f4_14] at f4_16
                       have f5_16 := congrArg (fun q => Env.get q 5) he16
                       simp only [go_sem, Nat.reduceEqDiff, reduceIte, f5_14] at f5_16
                       have f6_16 := congrArg (fun q => Env.get q 6) he16
                       simp only [go_sem, Nat.reduceEqDiff, reduceIte, f6_14] at f6_16
                       have f7_16 := congrArg (fun q => Env.get q 7) he16
                       simp only [go_sem, Nat.reduceEqDiff, reduceIte, f7_14] at f7_16
                       have f8_16 := congrArg (fun q => Env.get q 8) he16
                       simp only [go_sem, Nat.reduceEqDiff, reduceIte, f8_14] at f8_16
                       have f9_16 := congrArg (fun q => Env.get q 9) he16
                       simp only [go_sem, Nat.reduceEqDiff, reduceIte, f9_14] at f9_16
                       have f10_16 := congrArg (fun q => Env.get q 10) he16
                       simp only [go_sem, Nat.reduceEqDiff, reduceIte, f10_14] at f10_16
                       have f11_16 := congrArg (fun q => Env.get q 11) he16
                       simp only [go_sem, Nat.reduceEqDiff, reduceIte] at f11_16
                       clear he16 f0_14 f3_14 f4_14 f5_14 f6_14 f7_14 f8_14 f9_14 f10_14 f72_14
                       refine W.thenN ?_
                       refine W.block ?_
                       refine wq_rounds (fun j => l.length - j) (J7 l a c h 11 n1 d1 n2 d2 (fun _ => false) (fun _ => false) i) ?_ (i + 1) _ _ ?_
                       · intro j e17 k2 hj
                         have f0_17 := hj.e0
                         have f3_17 := hj.e3
                         have f4_17 := hj.e4
                         have f5_17 := hj.e5
                         have f6_17 := hj.e6
                         have f7_17 := hj.e7
                         have f8_17 := hj.e8
                         have f9_17 := hj.e9
                         have f10_17 := hj.e10
                         have f11_17 := hj.e11
                         have exj := hj.t.ex
                         have hlej := hj.le
                         have hltj := hj.lt
                         have haddj : wrapF .i64 ((j : Int) + 1) = ((j + 1 : Nat) : Int) := by rw [w64_in _ (by omega)]; omega
                         refine W.seq ?_
                         refine W.seq ?_
                         refine W.region (fun K hK => ?_)
                         simp (config := { maxSteps := 10000000 }) only [go_sem, ↓forkQ_true, ↓forkQ_false, ↓guardQ_some, ↓resQ_val, ↓resQ_unit, ↓resQ_enter, ↓retQ_some, ↓resFQ_val, ↓resFQ_unit, ↓resFQ_enter, ↓retFQ_some, Nat.reduceEqDiff, reduceIte, Nat.reduceAdd, Nat.reduceMul, Nat.reduceSub, reduceCtorEq, Nat.reduceLeDiff, f0_17, f3_17, f4_17, f5_17, f6_17, f7_17, f8_17, f9_17, f10_17, f11_17, t10, t12, t14, t16, t26, t27, hadd, haddj]
                         refine hK _ _ ?_
                         clear hK K
                         refine W.forget (fun e18 he18 => ?_)
                         have f0_18 := congrArg (fun q => Env.get q 0) he18
                         simp only [go_sem, Nat.reduceEqDiff, reduceIte, f0_17] at f0_18
                         have f3_18 := congrArg (fun q => Env.get q 3) he18
                         simp only [go_sem, Nat.reduceEqDiff, reduceIte, f3_17] at f3_18
                         have f4_18 := congrArg (fun q => Env.get q 4) he18
                         simp only [go_sem, Nat.reduceEqDiff, reduceIte, f4_17] at f4_18
                         have f5_18 := congrArg (fun q => Env.get q 5) he18
                         simp only [go_sem, Nat.reduceEqDiff, reduceIte, f5_17] at f5_18
                         have f6_18 := congrArg (fun q => Env.get q 6) he18
                         simp only [go_sem, Nat.reduceEqDiff, reduceIte, f6_17] at f6_18
                         have f7_18 := congrArg (fun q => Env.get q 7) he18
                         simp only [go_sem, Nat.reduceEqDiff, reduceIte, f7_17] at f7_18
                         have f8_18 := congrArg (fun q => Env.get q 8) he18
                         simp only [go_sem, Nat.reduceEqDiff, reduceIte, f8_17] at f8_18
                         have f9_18 := congrArg (fun q => Env.get q 9) he18
                         simp only [go_sem, Nat.reduceEqDiff, reduceIte, f9_17] at f9_18
                         have f10_18 := congrArg (fun q => Env.get q 10) he18
                         simp only [go_sem, Nat.reduceEqDiff, reduceIte, f10_17] at f10_18
                         have f11_18 := congrArg (fun q => Env.get q 11) he18
                         simp only [go_sem, Nat.reduceEqDiff, reduceIte, f11_17] at f11_18
                         have f80_18 := congrArg (fun q => Env.get q 80) he18
                         simp only [go_sem, Nat.reduceEqDiff, reduceIte] at f80_18
                         clear he18 f0_17 f3_17 f4_17 f5_17 f6_17 f7_17 f8_17 f9_17 f10_17 f11_17
                         refine W.thenN ?_
                         refine W.cond f80_18 (fun hc19 => ?_) (fun hc19 => ?_)
                         · first
                           | (cases hc19; done)
                           | (exfalso; simp only [decide_eq_true_eq, decide_eq_false_iff_not, Bool.not_eq_true', Bool.not_eq_false', Bool.not_eq_eq_eq_not, Bool.not_true, Bool.not_false] at hc19; omega)
                           | (skip
                              try simp only [decide_eq_true_eq, decide_eq_false_iff_not, Bool.not_eq_true', Bool.not_eq_false', Bool.not_eq_eq_eq_not, Bool.not_true, Bool.not_false] at hc19
                              refine W.skip ?_
                              refine W.thenN ?_
                              refine W.seq ?_
                              refine W.block ?_
                              refine W.seq ?_
                              refine W.draw dr7_14 (fun K hK => ?_)
                              have hjn : j < l.length := by omega
                              have hin : i < l.length := by omega
                              have iri := inRange_nat hin
                              have irj := inRange_nat hjn
                              obtain ⟨b, blk, ext, rfl, hb, hcs, hbl⟩ := hg (ne_of_lt hin)
                              have hb' := (exj.get b hbl).trans hb
                              have ci0 := gcell0 (ext := ext) hin
                              have ci1 := gcell1 (ext := ext) hin
                              have ci2 := gcell2 (ext := ext) hin
                              have cj0 := gcell0 (ext := ext) hjn
                              have cj1 := gcell1 (ext := ext) hjn
                              have cj2 := gcell2 (ext := ext) hjn
                              have ri := o.rng i hin
                              have rj := o.rng j hjn
                              have hX := o.lt i j hltj hjn
                              have s0 : wrapF .i64 ((gt l j).x - (gt l i).x) = (gt l j).x - (gt l i).x := w64_in _ (by omega)
                              have s1 : wrapF .i64 ((gt l j).lo - (gt l i).hi) = (gt l j).lo - (gt l i).hi := w64_in _ (by omega)
                              have s2 : wrapF .i64 ((gt l j).hi - (gt l i).lo) = (gt l j).hi - (gt l i).lo := w64_in _ (by omega)
                              have hbn := exj.ne hbl
                              have hbn' := exj.ne' hbl
                              have hbn1 : (b = k2.next + 1) = False := eq_false (by have := exj.next; omega)
                              have hbn1' : (k2.next + 1 = b) = False := eq_false (by have := exj.next; omega)
                              have hf' := exj.fact'
                              have hw := exj.wr
                              have hD : ((gt l j).x - (gt l i).x) ≠ 0 := by omega
                              have nx2 := hj.t.nx
                              simp (config := { maxSteps := 10000000 }) only [go_sem, ↓forkQ_true, ↓forkQ_false, ↓guardQ_some, ↓resQ_val, ↓resQ_unit, ↓resQ_enter, ↓retQ_some, ↓resFQ_val, ↓resFQ_unit, ↓resFQ_enter, ↓retFQ_some, Nat.reduceEqDiff, reduceIte, Nat.reduceAdd, Nat.reduceMul, Nat.reduceSub, reduceCtorEq, Nat.reduceLeDiff, f0_18, f3_18, f4_18, f5_18, f6_18, f7_18, f8_18, f9_18, f10_18, f11_18, f80_18, t10, t12, t14, t16, t26, t27, hadd, haddj, iri, irj, hb', hcs, ci0, ci1, ci2, cj0, cj1, cj2, s0, s1, s2, hbn, hbn', hbn1, hbn1', hf', hw]
                              refine hK _ _ ?_
                              clear hK K
                              refine W.forget (fun e20 he20 => ?_)
                              have f0_20 := congrArg (fun q => Env.get q 0) he20
                              simp only [go_sem, Nat.reduceEqDiff, reduceIte, f0_18] at f0_20
                              have f3_20 := congrArg (fun q => Env.get q 3) he20
                              simp only [go_sem, Nat.reduceEqDiff, reduceIte, f3_18] at f3_20
                              have f4_20 := congrArg (fun q => Env.get q 4) he20
                              simp only [go_sem, Nat.reduceEqDiff, reduceIte, f4_18] at f4_20
                              have f5_20 := congrArg (fun q => Env.get q 5) he20
                              simp only [go_sem, Nat.reduceEqDiff, reduceIte, f5_18] at f5_20
                              have f6_20 := congrArg (fun q => Env.get q 6) he20
                              simp only [go_sem, Nat.reduceEqDiff, reduceIte, f6_18] at f6_20
                              have f7_20 := congrArg (fun q => Env.get q 7) he20
                              simp only [go_sem, Nat.reduceEqDiff, reduceIte, f7_18] at f7_20
                              have f8_20 := congrArg (fun q => Env.get q 8) he20
                              simp only [go_sem, Nat.reduceEqDiff, reduceIte, f8_18] at f8_20
                              have f9_20 := congrArg (fun q => Env.get q 9) he20
                              simp only [go_sem, Nat.reduceEqDiff, reduceIte, f9_18] at f9_20
                              have f10_20 := congrArg (fun q => Env.get q 10) he20
                              simp only [go_sem, Nat.reduceEqDiff, reduceIte, f10_18] at f10_20
                              have f11_20 := congrArg (fun q => Env.get q 11) he20
                              simp only [go_sem, Nat.reduceEqDiff, reduceIte, f11_18] at f11_20
                              have f12_20 := congrArg (fun q => Env.get q 12) he20
                              simp only [go_sem, Nat.reduceEqDiff, reduceIte] at f12_20
                              clear he20 f0_18 f3_18 f4_18 f5_18 f6_18 f7_18 f8_18 f9_18 f10_18 f11_18 f80_18
                              refine W.thenN ?_
                              refine W.seq ?_
                              refine W.drawP _ dr7_15 (fun K hK => ?_)
                              simp (config := { maxSteps := 10000000 }) only [go_sem, ↓forkQ_true, ↓forkQ_false, ↓guardQ_some, ↓resQ_val, ↓resQ_unit, ↓resQ_enter, ↓retQ_some, ↓resFQ_val, ↓resFQ_unit, ↓resFQ_enter, ↓retFQ_some, Nat.reduceEqDiff, reduceIte, Nat.reduceAdd, Nat.reduceMul, Nat.reduceSub, reduceCtorEq, Nat.reduceLeDiff, f0_20, f3_20, f4_20, f5_20, f6_20, f7_20, f8_20, f9_20, f10_20, f11_20, f12_20, t10, t12, t14, t16, t26, t27, hadd, haddj, iri, irj, hb', hcs, ci0, ci1, ci2, cj0, cj1, cj2, s0, s1, s2, hbn, hbn', hbn1, hbn1', hf', hw]
                              refine hK _ _ _ (by simp only [go_sem, ↓forkQ_true, ↓forkQ_false, ↓guardQ_some, ↓resQ_val, ↓resQ_unit, ↓resQ_enter, ↓retQ_some, ↓resFQ_val, ↓resFQ_unit, ↓resFQ_enter, ↓retFQ_some, Nat.reduceEqDiff, reduceIte, Nat.reduceAdd, Nat.reduceMul, Nat.reduceSub, reduceCtorEq, Nat.reduceLeDiff, hbn, hbn', hbn1, hbn1']) ?_
                              clear hK K
                              refine W.forget (fun e21 he21 => ?_)
                              refine W.forgetH (fun k9 hk21 => ?_)
                              have t9 : Tw h k9 n1 d1 n2 d2 (lstF (outr (rlP l) l.length i ++ inn (rlP l) i j)) (grtF (outr (rgP l) l.length i ++ inn (rgP l) i j)) := hj.t.grow (by rw [hk21]; exact (((exj.alloc _).alloc _).set exj.next _).set (Nat.le_succ_of_le exj.next) _) (by rw [hk21]; show k2.next ≤ k2.next + 1 + 1; omega) (fun q hq => by rw [hk21, Heap.get_set_ne _ _ (by omega), Heap.get_set_ne _ _ (by omega), Heap.get_alloc_ne _ _ (by show q ≠ k2.next + 1; omega), Heap.get_alloc_ne _ _ (by omega)])
                              have g13 : k9.get k2.next = some ⟨[.int .i64 ((gt l j).lo - (gt l i).hi), .int .i64 ((gt l j).x - (gt l i).x)], true, false, none⟩ := by rw [hk21, Heap.get_set_ne _ _ (by omega)]; exact Heap.get_set_same _ _ _
                              have g14 : k9.get (k2.next + 1) = some ⟨[.int .i64 ((gt l j).hi - (gt l i).lo), .int .i64 ((gt l j).x - (gt l i).x)], true, false, none⟩ := by rw [hk21]; exact Heap.get_set_same _ _ _
                              clear hk21
                              have f0_21 := congrArg (fun q => Env.get q 0) he21
                              simp only [go_sem, Nat.reduceEqDiff, reduceIte, f0_20] at f0_21
                              have f3_21 := congrArg (fun q => Env.get q 3) he21
                              simp only [go_sem, Nat.reduceEqDiff, reduceIte, f3_20] at f3_21
                              have f4_21 := congrArg (fun q => Env.get q 4) he21
                              simp only [go_sem, Nat.reduceEqDiff, reduceIte, f4_20] at f4_21
                              have f5_21 := congrArg (fun q => Env.get q 5) he21
                              simp only [go_sem, Nat.reduceEqDiff, reduceIte, f5_20] at f5_21
                              have f6_21 := congrArg (fun q => Env.get q 6) he21
                              simp only [go_sem, Nat.reduceEqDiff, reduceIte, f6_20] at f6_21
                              have f7_21 := congrArg (fun q => Env.get q 7) he21
                              simp only [go_sem, Nat.reduceEqDiff, reduceIte, f7_20] at f7_21
                              have f8_21 := congrArg (fun q => Env.get q 8) he21
                              simp only [go_sem, Nat.reduceEqDiff, reduceIte, f8_20] at f8_21
                              have f9_21 := congrArg (fun q => Env.get q 9) he21
                              simp only [go_sem, Nat.reduceEqDiff, reduceIte, f9_20] at f9_21
                              have f10_21 := congrArg (fun q => Env.get q 10) he21
                              simp only [go_sem, Nat.reduceEqDiff, reduceIte, f10_20] at f10_21
                              have f11_21 := congrArg (fun q => Env.get q 11) he21
                              simp only [go_sem, Nat.reduceEqDiff, reduceIte, f11_20] at f11_21
                              have f12_21 := congrArg (fun q => Env.get q 12) he21
                              simp only [go_sem, Nat.reduceEqDiff, reduceIte, f12_20] at f12_21
                              have f13_21 := congrArg (fun q => Env.get q 13) he21
                              simp only [go_sem, Nat.reduceEqDiff, reduceIte] at f13_21
                              have f14_21 := congrArg (fun q => Env.get q 14) he21
                              simp only [go_sem, Nat.reduceEqDiff, reduceIte] at f14_21
                              clear he21 f0_20 f3_20 f4_20 f5_20 f6_20 f7_20 f8_20 f9_20 f10_20 f11_20 f12_20
                              refine W.thenN ?_
                              refine W.seq ?_
                              refine W.seq ?_
                              refine W.region (fun K hK => ?_)
                              have gl := t9.gl
                              have q27 := c27 (lstF (outr (rlP l) l.length i ++ inn (rlP l) i j)).1 _ ((gt l j).lo - (gt l i).hi) _ t9.dp hD
                              simp (config := { maxSteps := 10000000 }) only [go_sem, ↓forkQ_true, ↓forkQ_false, ↓guardQ_some, ↓resQ_val, ↓resQ_unit, ↓resQ_enter, ↓retQ_some, ↓resFQ_val, ↓resFQ_unit, ↓resFQ_enter, ↓retFQ_some, Nat.reduceEqDiff, reduceIte, Nat.reduceAdd, Nat.reduceMul, Nat.reduceSub, reduceCtorEq, Nat.reduceLeDiff, f0_21, f3_21, f4_21, f5_21, f6_21, f7_21, f8_21, f9_21, f10_21, f11_21, f12_21, f13_21, f14_21, t10, t12, t14, t16, t26, t27, hadd, haddj, iri, irj, hb', hcs, ci0, ci1, ci2, cj0, cj1, cj2, s0, s1, s2, hbn, hbn', hbn1, hbn1', hf', hw, g13, gl, q27]
                              refine hK _ _ ?_
                              clear hK K
                              refine W.forget (fun e22 he22 => ?_)
                              have f0_22 := congrArg (fun q => Env.get q 0) he22
                              simp only [go_sem, Nat.reduceEqDiff, reduceIte, f0_21] at f0_22
                              have f3_22 := congrArg (fun q => Env.get q 3) he22
                              simp only [go_sem, Nat.reduceEqDiff, reduceIte, f3_21] at f3_22
                              have f4_22 := congrArg (fun q => Env.get q 4) he22
                              simp only [go_sem, Nat.reduceEqDiff, reduceIte, f4_21] at f4_22
                              have f5_22 := congrArg (fun q => Env.get q 5) he22
                              simp only [go_sem, Nat.reduceEqDiff, reduceIte, f5_21] at f5_22
                              have f6_22 := congrArg (fun q => Env.get q 6) he22
                              simp only [go_sem, Nat.reduceEqDiff, reduceIte, f6_21] at f6_22
                              have f7_22 := congrArg (fun q => Env.get q 7) he22
                              simp only [go_sem, Nat.reduceEqDiff, reduceIte, f7_21] at f7_22
                              have f8_22 := congrArg (fun q => Env.get q 8) he22
                              simp only [go_sem, Nat.reduceEqDiff, reduceIte, f8_21] at f8_22
                              have f9_22 := congrArg (fun q => Env.get q 9) he22
                              simp only [go_sem, Nat.reduceEqDiff, reduceIte, f9_21] at f9_22
                              have f10_22 := congrArg (fun q => Env.get q 10) he22
                              simp only [go_sem, Nat.reduceEqDiff, reduceIte, f10_21] at f10_22
                              have f11_22 := congrArg (fun q => Env.get q 11) he22
                              simp only [go_sem, Nat.reduceEqDiff, reduceIte, f11_21] at f11_22
                              have f12_22 := congrArg (fun q => Env.get q 12) he22
                              simp only [go_sem, Nat.reduceEqDiff, reduceIte, f12_21] at f12_22
                              have f13_22 := congrArg (fun q => Env.get q 13) he22
                              simp only [go_sem, Nat.reduceEqDiff, reduceIte, f13_21] at f13_22
                              have f14_22 := congrArg (fun q => Env.get q 14) he22
                              simp only [go_sem, Nat.reduceEqDiff, reduceIte, f14_21] at f14_22
                              have f122_22 := congrArg (fun q => Env.get q 122) he22
                              simp only [go_sem, Nat.reduceEqDiff, reduceIte] at f122_22
                              clear he22 f0_21 f3_21 f4_21 f5_21 f6_21 f7_21 f8_21 f9_21 f10_21 f11_21 f12_21 f13_21 f14_21
                              refine W.thenN ?_
                              refine W.join (M := (M7 l (some ⟨b, 0, none⟩) c h 11 n1 d1 n2 d2 (fun _ => false) (fun _ => false) i j k2.next ((outr (rlP l) l.length i ++ inn (rlP l) i j) ++ [rlP l i j]) (outr (rgP l) l.length i ++ inn (rgP l) i j))) ?_ (fun e23 k9 hm => ?_)
                              · skip
                                refine W.cond f122_22 (fun hc24 => ?_) (fun hc24 => ?_)
                                · first
                                  | (cases hc24; done)
                                  | (exfalso; simp only [decide_eq_true_eq, decide_eq_false_iff_not, Bool.not_eq_true', Bool.not_eq_false', Bool.not_eq_eq_eq_not, Bool.not_true, Bool.not_false] at hc24; omega)
                                  | (skip
                                     try simp only [decide_eq_true_eq, decide_eq_false_iff_not, Bool.not_eq_true', Bool.not_eq_false', Bool.not_eq_eq_eq_not, Bool.not_true, Bool.not_false] at hc24
                                     refine W.region (fun K hK => ?_)
                                     simp (config := { maxSteps := 10000000 }) only [go_sem, ↓forkQ_true, ↓forkQ_false, ↓guardQ_some, ↓resQ_val, ↓resQ_unit, ↓resQ_enter, ↓retQ_some, ↓resFQ_val, ↓resFQ_unit, ↓resFQ_enter, ↓retFQ_some, Nat.reduceEqDiff, reduceIte, Nat.reduceAdd, Nat.reduceMul, Nat.reduceSub, reduceCtorEq, Nat.reduceLeDiff, f0_22, f3_22, f4_22, f5_22, f6_22, f7_22, f8_22, f9_22, f10_22, f11_22, f12_22, f13_22, f14_22, f122_22, t10, t12, t14, t16, t26, t27, hadd, haddj, iri, irj, hb', hcs, ci0, ci1, ci2, cj0, cj1, cj2, s0, s1, s2, hbn, hbn', hbn1, hbn1', hf', hw, g13, gl, q27, g13, gl]
                                     refine hK _ _ ?_
                                     clear hK K
                                     refine W.forget (fun e25 he25 => ?_)
                                     refine W.forgetH (fun k17 hk25 => ?_)
                                     have t9 := t9.least (p := rlP l i j) hD ‹lessZ _ _ ((gt l j).lo - (gt l i).hi) ((gt l j).x - (gt l i).x) = true›
                                     rw [show (⟨[.int .i64 (rlP l i j).1, .int .i64 (rlP l i j).2], true, false, none⟩ : Blk) = ⟨[.int .i64 ((gt l j).lo - (gt l i).hi), .int .i64 ((gt l j).x - (gt l i).x)], true, false, none⟩ from rfl, ← hk25] at t9
                                     have g13 : k17.get k2.next = some ⟨[.int .i64 ((gt l j).lo - (gt l i).hi), .int .i64 ((gt l j).x - (gt l i).x)], true, false, none⟩ := by rw [hk25, Heap.get_set_ne _ _ (by omega)]; exact g13
                                     have g14 : k17.get (k2.next + 1) = some ⟨[.int .i64 ((gt l j).hi - (gt l i).lo), .int .i64 ((gt l j).x - (gt l i).x)], true, false, none⟩ := by rw [hk25, Heap.get_set_ne _ _ (by omega)]; exact g14
                                     clear hk25
                                     have f0_25 := congrArg (fun q => Env.get q 0) he25
                                     simp only [go_sem, Nat.reduceEqDiff, reduceIte, f0_22] at f0_25
                                     have f3_25 := congrArg (fun q => Env.get q 3) he25
                                     simp only [go_sem, Nat.reduceEqDiff, reduceIte, f3_22] at f3_25
                                     have f4_25 := congrArg (fun q => Env.get q 4) he25
                                     simp only [go_sem, Nat.reduceEqDiff, reduceIte, f4_22] at f4_25
                                     have f5_25 := congrArg (fun q => Env.get q 5) he25
                                     simp only [go_sem, Nat.reduceEqDiff, reduceIte, f5_22] at f5_25
                                     have f6_25 := congrArg (fun q => Env.get q 6) he25
                                     simp only [go_sem, Nat.reduceEqDiff, reduceIte, f6_22] at f6_25
                                     have f7_25 := congrArg (fun q => Env.get q 7) he25
                                     simp only [go_sem, Nat.reduceEqDiff, reduceIte, f7_22] at f7_25
                                     have f8_25 := congrArg (fun q => Env.get q 8) he25
                                     simp only [go_sem, Nat.reduceEqDiff, reduceIte, f8_22] at f8_25
                                     have f9_25 := congrArg (fun q => Env.get q 9) he25
                                     simp only [go_sem, Nat.reduceEqDiff, reduceIte, f9_22] at f9_25
                                     have f10_25 := congrArg (fun q => Env.get q 10) he25
                                     simp only [go_sem, Nat.reduceEqDiff, reduceIte, f10_22] at f10_25
                                     have f11_25 := congrArg (fun q => Env.get q 11) he25
                                     simp only [go_sem, Nat.reduceEqDiff, reduceIte, f11_22] at f11_25
                                     have f12_25 := congrArg (fun q => Env.get q 12) he25
                                     simp only [go_sem, Nat.reduceEqDiff, reduceIte, f12_22] at f12_25
                                     have f13_25 := congrArg (fun q => Env.get q 13) he25
                                     simp only [go_sem, Nat.reduceEqDiff, reduceIte, f13_22] at f13_25
                                     have f14_25 := congrArg (fun q => Env.get q 14) he25
                                     simp only [go_sem, Nat.reduceEqDiff, reduceIte, f14_22] at f14_25
                                     clear he25 f0_22 f3_22 f4_22 f5_22 f6_22 f7_22 f8_22 f9_22 f10_22 f11_22 f12_22 f13_22 f14_22 f122_22
                                     refine W.thenN ?_
                                     exact ⟨t9, g13, g14, f0_25, f3_25, f4_25, f5_25, f6_25, f7_25, f8_25, f9_25, f10_25, f11_25, f12_25, f13_25, f14_25⟩)
                                · first
                                  | (cases hc24; done)
                                  | (exfalso; simp only [decide_eq_true_eq, decide_eq_false_iff_not, Bool.not_eq_true', Bool.not_eq_false', Bool.not_eq_eq_eq_not, Bool.not_true, Bool.not_false] at hc24; omega)
                                  | (skip
                                     try simp only [decide_eq_true_eq, decide_eq_false_iff_not, Bool.not_eq_true', Bool.not_eq_false', Bool.not_eq_eq_eq_not, Bool.not_true, Bool.not_false] at hc24
                                     replace t9 := t9.least' (p := rlP l i j) ‹lessZ _ _ ((gt l j).lo - (gt l i).hi) ((gt l j).x - (gt l i).x) = false›
                                     refine W.skip ?_
                                     refine W.thenN ?_
                                     exact ⟨t9, g13, g14, f0_22, f3_22, f4_22, f5_22, f6_22, f7_22, f8_22, f9_22, f10_22, f11_22, f12_22, f13_22, f14_22⟩)
                              · skip
                                have f0_23 := hm.e0
                                have f3_23 := hm.e3
                                have f4_23 := hm.e4
                                have f5_23 := hm.e5
                                have f6_23 := hm.e6
                                have f7_23 := hm.e7
                                have f8_23 := hm.e8
                                have f9_23 := hm.e9
                                have f10_23 := hm.e10
                                have f11_23 := hm.e11
                                have f12_23 := hm.e12
                                have f13_23 := hm.e13
                                have f14_23 := hm.e14
                                have t9 := hm.t
                                have g13 := hm.g13
                                have g14 := hm.g14
                                clear f0_22 f3_22 f4_22 f5_22 f6_22 f7_22 f8_22 f9_22 f10_22 f11_22 f12_22 f13_22 f14_22 f122_22
                                refine W.seq ?_
                                refine W.seq ?_
                                refine W.region (fun K hK => ?_)
                                have gg := t9.gg
                                have q27 := c27 ((gt l j).hi - (gt l i).lo) _ (grtF (outr (rgP l) l.length i ++ inn (rgP l) i j)).1 _ hD t9.dq
                                simp (config := { maxSteps := 10000000 }) only [go_sem, ↓forkQ_true, ↓forkQ_false, ↓guardQ_some, ↓resQ_val, ↓resQ_unit, ↓resQ_enter, ↓retQ_some, ↓resFQ_val, ↓resFQ_unit, ↓resFQ_enter, ↓retFQ_some, Nat.reduceEqDiff, reduceIte, Nat.reduceAdd, Nat.reduceMul, Nat.reduceSub, reduceCtorEq, Nat.reduceLeDiff, f0_23, f3_23, f4_23, f5_23, f6_23, f7_23, f8_23, f9_23, f10_23, f11_23, f12_23, f13_23, f14_23, t10, t12, t14, t16, t26, t27, hadd, haddj, iri, irj, hb', hcs, ci0, ci1, ci2, cj0, cj1, cj2, s0, s1, s2, hbn, hbn', hbn1, hbn1', hf', hw, g13, gl, q27, g14, gg, q27]
                                refine hK _ _ ?_
                                clear hK K
                                refine W.forget (fun e26 he26 => ?_)
                                have f0_26 := congrArg (fun q => Env.get q 0) he26
                                simp only [go_sem, Nat.reduceEqDiff, reduceIte, f0_23] at f0_26
                                have f3_26 := congrArg (fun q => Env.get q 3) he26
                                simp only [go_sem, Nat.reduceEqDiff, reduceIte, f3_23] at f3_26
                                have f4_26 := congrArg (fun q => Env.get q 4) he26
                                simp only [go_sem, Nat.reduceEqDiff, reduceIte, f4_23] at f4_26
                                have f5_26 := congrArg (fun q => Env.get q 5) he26
                                simp only [go_sem, Nat.reduceEqDiff, reduceIte, f5_23] at f5_26
                                have f6_26 := congrArg (fun q => Env.get q 6) he26
                                simp only [go_sem, Nat.reduceEqDiff, reduceIte, f6_23] at f6_26
                                have f7_26 := congrArg (fun q => Env.get q 7) he26
                                simp only [go_sem, Nat.reduceEqDiff, reduceIte, f7_23] at f7_26
                                have f8_26 := congrArg (fun q => Env.get q 8) he26
                                simp only [go_sem, Nat.reduceEqDiff, reduceIte, f8_23] at f8_26
                                have f9_26 := congrArg (fun q => Env.get q 9) he26
                                simp only [go_sem, Nat.reduceEqDiff, reduceIte, f9_23] at f9_26
                                have f10_26 := congrArg (fun q => Env.get q 10) he26
                                simp only [go_sem, Nat.reduceEqDiff, reduceIte, f10_23] at f10_26
                                have f11_26 := congrArg (fun q => Env.get q 11) he26
                                simp only [go_sem, Nat.reduceEqDiff, reduceIte, f11_23] at f11_26
                                have f12_26 := congrArg (fun q => Env.get q 12) he26
                                simp only [go_sem, Nat.reduceEqDiff, reduceIte, f12_23] at f12_26
                                have f13_26 := congrArg (fun q => Env.get q 13) he26
                                simp only [go_sem, Nat.reduceEqDiff, reduceIte, f13_23] at f13_26
                                have f14_26 := congrArg (fun q => Env.get q 14) he26
                                simp only [go_sem, Nat.reduceEqDiff, reduceIte, f14_23] at f14_26
                                have f126_26 := congrArg (fun q => Env.get q 126) he26
                                simp only [go_sem, Nat.reduceEqDiff, reduceIte] at f126_26
                                clear he26 f0_23 f3_23 f4_23 f5_23 f6_23 f7_23 f8_23 f9_23 f10_23 f11_23 f12_23 f13_23 f14_23
                                refine W.thenN ?_
                                refine W.join (M := (M7 l (some ⟨b, 0, none⟩) c h 11 n1 d1 n2 d2 (fun _ => false) (fun _ => false) i j k2.next ((outr (rlP l) l.length i ++ inn (rlP l) i j) ++ [rlP l i j]) ((outr (rgP l) l.length i ++ inn (rgP l) i j) ++ [rgP l i j]))) ?_ (fun e27 k9 hm => ?_)
                                · skip
                                  refine W.cond f126_26 (fun hc28 => ?_) (fun hc28 => ?_)
                                  · first
                                    | (cases hc28; done)
                                    | (exfalso; simp only [decide_eq_true_eq, decide_eq_false_iff_not, Bool.not_eq_true', Bool.not_eq_false', Bool.not_eq_eq_eq_not, Bool.not_true, Bool.not_false] at hc28; omega)
                                    | (skip
                                       try simp only [decide_eq_true_eq, decide_eq_false_iff_not, Bool.not_eq_true', Bool.not_eq_false', Bool.not_eq_eq_eq_not, Bool.not_true, Bool.not_false] at hc28
                                       refine W.region (fun K hK => ?_)
                                       simp (config := { maxSteps := 10000000 }) only [go_sem, ↓forkQ_true, ↓forkQ_false, ↓guardQ_some, ↓resQ_val, ↓resQ_unit, ↓resQ_enter, ↓retQ_some, ↓resFQ_val, ↓resFQ_unit, ↓resFQ_enter, ↓retFQ_some, Nat.reduceEqDiff, reduceIte, Nat.reduceAdd, Nat.reduceMul, Nat.reduceSub, reduceCtorEq, Nat.reduceLeDiff, f0_26, f3_26, f4_26, f5_26, f6_26, f7_26, f8_26, f9_26, f10_26, f11_26, f12_26, f13_26, f14_26, f126_26, t10, t12, t14, t16, t26, t27, hadd, haddj, iri, irj, hb', hcs, ci0, ci1, ci2, cj0, cj1, cj2, s0, s1, s2, hbn, hbn', hbn1, hbn1', hf', hw, g13, gl, q27, g14, gg, q27, g14, gg]
                                       refine hK _ _ ?_
                                       clear hK K
                                       refine W.forget (fun e29 he29 => ?_)
                                       refine W.forgetH (fun k19 hk29 => ?_)
                                       have t9 := t9.most (p := rgP l i j) hD ‹lessZ ((gt l j).hi - (gt l i).lo) ((gt l j).x - (gt l i).x) _ _ = true›
                                       rw [show (⟨[.int .i64 (rgP l i j).1, .int .i64 (rgP l i j).2], true, false, none⟩ : Blk) = ⟨[.int .i64 ((gt l j).hi - (gt l i).lo), .int .i64 ((gt l j).x - (gt l i).x)], true, false, none⟩ from rfl, ← hk29] at t9
                                       have g13 : k19.get k2.next = some ⟨[.int .i64 ((gt l j).lo - (gt l i).hi), .int .i64 ((gt l j).x - (gt l i).x)], true, false, none⟩ := by rw [hk29, Heap.get_set_ne _ _ (by omega)]; exact g13
                                       have g14 : k19.get (k2.next + 1) = some ⟨[.int .i64 ((gt l j).hi - (gt l i).lo), .int .i64 ((gt l j).x - (gt l i).x)], true, false, none⟩ := by rw [hk29, Heap.get_set_ne _ _ (by omega)]; exact g14
                                       clear hk29
                                       have f0_29 := congrArg (fun q => Env.get q 0) he29
                                       simp only [go_sem, Nat.reduceEqDiff, reduceIte, f0_26] at f0_29
                                       have f3_29 := congrArg (fun q => Env.get q 3) he29
                                       simp only [go_sem, Nat.reduceEqDiff, reduceIte, f3_26] at f3_29
                                       have f4_29 := congrArg (fun q => Env.get q 4) he29
                                       simp only [go_sem, Nat.reduceEqDiff, reduceIte, f4_26] at f4_29
                                       have f5_29 := congrArg (fun q => Env.get q 5) he29
                                       simp only [go_sem, Nat.reduceEqDiff, reduceIte, f5_26] at f5_29
                                       have f6_29 := congrArg (fun q => Env.get q 6) he29
                                       simp only [go_sem, Nat.reduceEqDiff, reduceIte, f6_26] at f6_29
                                       have f7_29 := congrArg (fun q => Env.get q 7) he29
                                       simp only [go_sem, Nat.reduceEqDiff, reduceIte, f7_26] at f7_29
                                       have f8_29 := congrArg (fun q => Env.get q 8) he29
                                       simp only [go_sem, Nat.reduceEqDiff, reduceIte, f8_26] at f8_29
                                       have f9_29 := congrArg (fun q => Env.get q 9) he29
                                       simp only [go_sem, Nat.reduceEqDiff, reduceIte, f9_26] at f9_29
                                       have f10_29 := congrArg (fun q => Env.get q 10) he29
                                       simp only [go_sem, Nat.reduceEqDiff, reduceIte, f10_26] at f10_29
                                       have f11_29 := congrArg (fun q => Env.get q 11) he29
                                       simp only [go_sem, Nat.reduceEqDiff, reduceIte, f11_26] at f11_29
                                       have f12_29 := congrArg (fun q => Env.get q 12) he29
                                       simp only [go_sem, Nat.reduceEqDiff, reduceIte, f12_26] at f12_29
                                       have f13_29 := congrArg (fun q => Env.get q 13) he29
                                       simp only [go_sem, Nat.reduceEqDiff, reduceIte, f13_26] at f13_29
                                       have f14_29 := congrArg (fun q => Env.get q 14) he29
                                       simp only [go_sem, Nat.reduceEqDiff, reduceIte, f14_26] at f14_29
                                       clear he29 f0_26 f3_26 f4_26 f5_26 f6_26 f7_26 f8_26 f9_26 f10_26 f11_26 f12_26 f13_26 f14_26 f126_26
                                       refine W.thenN ?_
                                       exact ⟨t9, g13, g14, f0_29, f3_29, f4_29, f5_29, f6_29, f7_29, f8_29, f9_29, f10_29, f11_29, f12_29, f13_29, f14_29⟩)
                                  · first
                                    | (cases hc28; done)
                                    | (exfalso; simp only [decide_eq_true_eq, decide_eq_false_iff_not, Bool.not_eq_true', Bool.not_eq_false', Bool.not_eq_eq_eq_not, Bool.not_true, Bool.not_false] at hc28; omega)
                                    | (skip
                                       try simp only [decide_eq_true_eq, decide_eq_false_iff_not, Bool.not_eq_true', Bool.not_eq_false', Bool.not_eq_eq_eq_not, Bool.not_true, Bool.not_false] at hc28
                                       replace t9 := t9.most' (p := rgP l i j) ‹lessZ ((gt l j).hi - (gt l i).lo) ((gt l j).x - (gt l i).x) _ _ = false›
                                       refine W.skip ?_
                                       refine W.thenN ?_
                                       exact ⟨t9, g13, g14, f0_26, f3_26, f4_26, f5_26, f6_26, f7_26, f8_26, f9_26, f10_26, f11_26, f12_26, f13_26, f14_26⟩)
                                · skip
                                  have f0_27 := hm.e0
                                  have f3_27 := hm.e3
                                  have f4_27 := hm.e4
                                  have f5_27 := hm.e5
                                  have f6_27 := hm.e6
                                  have f7_27 := hm.e7
                                  have f8_27 := hm.e8
                                  have f9_27 := hm.e9
                                  have f10_27 := hm.e10
                                  have f11_27 := hm.e11
                                  have f12_27 := hm.e12
                                  have f13_27 := hm.e13
                                  have f14_27 := hm.e14
                                  have t9 := hm.t
                                  have g13 := hm.g13
                                  have g14 := hm.g14
                                  clear f0_26 f3_26 f4_26 f5_26 f6_26 f7_26 f8_26 f9_26 f10_26 f11_26 f12_26 f13_26 f14_26 f126_26
                                  refine W.seq ?_
                                  refine W.seq ?_
                                  refine W.region (fun K hK => ?_)
                                  simp (config := { maxSteps := 10000000 }) only [go_sem, ↓forkQ_true, ↓forkQ_false, ↓guardQ_some, ↓resQ_val, ↓resQ_unit, ↓resQ_enter, ↓retQ_some, ↓resFQ_val, ↓resFQ_unit, ↓resFQ_enter, ↓retFQ_some, Nat.reduceEqDiff, reduceIte, Nat.reduceAdd, Nat.reduceMul, Nat.reduceSub, reduceCtorEq, Nat.reduceLeDiff, f0_27, f3_27, f4_27, f5_27, f6_27, f7_27, f8_27, f9_27, f10_27, f11_27, f12_27, f13_27, f14_27, t10, t12, t14, t16, t26, t27, hadd, haddj, iri, irj, hb', hcs, ci0, ci1, ci2, cj0, cj1, cj2, s0, s1, s2, hbn, hbn', hbn1, hbn1', hf', hw, g13, gl, q27, g14, gg, q27, k11]
                                  refine hK _ _ ?_
                                  clear hK K
                                  refine W.forget (fun e30 he30 => ?_)
                                  have f0_30 := congrArg (fun q => Env.get q 0) he30
                                  simp only [go_sem, Nat.reduceEqDiff, reduceIte, f0_27] at f0_30
                                  have f3_30 := congrArg (fun q => Env.get q 3) he30
                                  simp only [go_sem, Nat.reduceEqDiff, reduceIte, f3_27] at f3_30
                                  have f4_30 := congrArg (fun q => Env.get q 4) he30
                                  simp only [go_sem, Nat.reduceEqDiff, reduceIte, f4_27] at f4_30
                                  have f5_30 := congrArg (fun q => Env.get q 5) he30
                                  simp only [go_sem, Nat.reduceEqDiff, reduceIte, f5_27] at f5_30
                                  have f6_30 := congrArg (fun q => Env.get q 6) he30
                                  simp only [go_sem, Nat.reduceEqDiff, reduceIte, f6_27] at f6_30
                                  have f7_30 := congrArg (fun q => Env.get q 7) he30
                                  simp only [go_sem, Nat.reduceEqDiff, reduceIte, f7_27] at f7_30
                                  have f8_30 := congrArg (fun q => Env.get q 8) he30
                                  simp only [go_sem, Nat.reduceEqDiff, reduceIte, f8_27] at f8_30
                                  have f9_30 := congrArg (fun q => Env.get q 9) he30
                                  simp only [go_sem, Nat.reduceEqDiff, reduceIte, f9_27] at f9_30
                                  have f10_30 := congrArg (fun q => Env.get q 10) he30
                                  simp only [go_sem, Nat.reduceEqDiff, reduceIte, f10_27] at f10_30
                                  have f11_30 := congrArg (fun q => Env.get q 11) he30
                                  simp only [go_sem, Nat.reduceEqDiff, reduceIte, f11_27] at f11_30
                                  have f12_30 := congrArg (fun q => Env.get q 12) he30
                                  simp only [go_sem, Nat.reduceEqDiff, reduceIte, f12_27] at f12_30
                                  have f13_30 := congrArg (fun q => Env.get q 13) he30
                                  simp only [go_sem, Nat.reduceEqDiff, reduceIte, f13_27] at f13_30
                                  have f14_30 := congrArg (fun q => Env.get q 14) he30
                                  simp only [go_sem, Nat.reduceEqDiff, reduceIte, f14_27] at f14_30
                                  have f129_30 := congrArg (fun q => Env.get q 129) he30
                                  simp only [go_sem, Nat.reduceEqDiff, reduceIte] at f129_30
                                  clear he30 f0_27 f3_27 f4_27 f5_27 f6_27 f7_27 f8_27 f9_27 f10_27 f11_27 f12_27 f13_27 f14_27
                                  refine W.thenN ?_
                                  refine W.cond f129_30 (fun hc31 => ?_) (fun hc31 => ?_)
                                  · first
                                    | (cases hc31; done)
                                    | (exfalso; simp only [decide_eq_true_eq, decide_eq_false_iff_not, Bool.not_eq_true', Bool.not_eq_false', Bool.not_eq_eq_eq_not, Bool.not_true, Bool.not_false] at hc31; omega)
                                    | (skip
                                       try simp only [decide_eq_true_eq, decide_eq_false_iff_not, Bool.not_eq_true', Bool.not_eq_false', Bool.not_eq_eq_eq_not, Bool.not_true, Bool.not_false] at hc31
                                       refine W.exit ?_
                                       refine W.thenE ?_
                                       refine W.blockE ?_
                                       refine W.thenN ?_
                                       refine W.region (fun K hK => ?_)
                                       simp (config := { maxSteps := 10000000 }) only [go_sem, ↓forkQ_true, ↓forkQ_false, ↓guardQ_some, ↓resQ_val, ↓resQ_unit, ↓resQ_enter, ↓retQ_some, ↓resFQ_val, ↓resFQ_unit, ↓resFQ_enter, ↓retFQ_some, Nat.reduceEqDiff, reduceIte, Nat.reduceAdd, Nat.reduceMul, Nat.reduceSub, reduceCtorEq, Nat.reduceLeDiff, f0_30, f3_30, f4_30, f5_30, f6_30, f7_30, f8_30, f9_30, f10_30, f11_30, f12_30, f13_30, f14_30, f129_30, t10, t12, t14, t16, t26, t27, hadd, haddj, iri, irj, hb', hcs, ci0, ci1, ci2, cj0, cj1, cj2, s0, s1, s2, hbn, hbn', hbn1, hbn1', hf', hw, g13, gl, q27, g14, gg, q27, k11]
                                       refine hK _ _ ?_
                                       clear hK K
                                       refine W.forget (fun e32 he32 => ?_)
                                       have f0_32 := congrArg (fun q => Env.get q 0) he32
                                       simp only [go_sem, Nat.reduceEqDiff, reduceIte, f0_30] at f0_32
                                       have f3_32 := congrArg (fun q => Env.get q 3) he32
                                       simp only [go_sem, Nat.reduceEqDiff, reduceIte, f3_30] at f3_32
                                       have f4_32 := congrArg (fun q => Env.get q 4) he32
                                       simp only [go_sem, Nat.reduceEqDiff, reduceIte, f4_30] at f4_32
                                       have f5_32 := congrArg (fun q => Env.get q 5) he32
                                       simp only [go_sem, Nat.reduceEqDiff, reduceIte, f5_30] at f5_32
                                       have f6_32 := congrArg (fun q => Env.get q 6) he32
                                       simp only [go_sem, Nat.reduceEqDiff, reduceIte, f6_30] at f6_32
                                       have f7_32 := congrArg (fun q => Env.get q 7) he32
                                       simp only [go_sem, Nat.reduceEqDiff, reduceIte, f7_30] at f7_32
                                       have f8_32 := congrArg (fun q => Env.get q 8) he32
                                       simp only [go_sem, Nat.reduceEqDiff, reduceIte, f8_30] at f8_32
                                       have f9_32 := congrArg (fun q => Env.get q 9) he32
                                       simp only [go_sem, Nat.reduceEqDiff, reduceIte, f9_30] at f9_32
                                       have f10_32 := congrArg (fun q => Env.get q 10) he32
                                       simp only [go_sem, Nat.reduceEqDiff, reduceIte, f10_30] at f10_32
                                       have f11_32 := congrArg (fun q => Env.get q 11) he32
                                       simp only [go_sem, Nat.reduceEqDiff, reduceIte, f11_30] at f11_32
                                       clear he32 f0_30 f3_30 f4_30 f5_30 f6_30 f7_30 f8_30 f9_30 f10_30 f11_30 f12_30 f13_30 f14_30 f129_30
                                       refine W.thenN ?_
                                       exact ⟨j + 1, by dsimp only; omega, by rw [inn_step _ hltj, inn_step _ hltj, ← List.append_assoc, ← List.append_assoc]; exact t9, f0_32, f3_32, f4_32, f5_32, f6_32, f7_32, f8_32, f9_32, f10_32, f11_32, by omega, by omega⟩)
                                  · first
                                    | (cases hc31; done)
                                    | (exfalso; simp only [decide_eq_true_eq, decide_eq_false_iff_not, Bool.not_eq_true', Bool.not_eq_false', Bool.not_eq_eq_eq_not, Bool.not_true, Bool.not_false] at hc31; omega)
                                    | (skip
                                       try simp only [decide_eq_true_eq, decide_eq_false_iff_not, Bool.not_eq_true', Bool.not_eq_false', Bool.not_eq_eq_eq_not, Bool.not_true, Bool.not_false] at hc31
                                       refine W.skip ?_
                                       refine W.thenN ?_
                                       refine W.seq ?_
                                       refine W.seq ?_
                                       refine W.regionA (fun A hA K hK => ?_)
                                       have gd3 := guardAt hA (j := 3) (d := 133) rfl
                                       clear hA
                                       simp (config := { maxSteps := 10000000 }) only [go_sem, ↓forkQ_true, ↓forkQ_false, ↓guardQ_some, ↓resQ_val, ↓resQ_unit, ↓resQ_enter, ↓retQ_some, ↓resFQ_val, ↓resFQ_unit, ↓resFQ_enter, ↓retFQ_some, Nat.reduceEqDiff, reduceIte, Nat.reduceAdd, Nat.reduceMul, Nat.reduceSub, reduceCtorEq, Nat.reduceLeDiff, f0_30, f3_30, f4_30, f5_30, f6_30, f7_30, f8_30, f9_30, f10_30, f11_30, f12_30, f13_30, f14_30, f129_30, t10, t12, t14, t16, t26, t27, hadd, haddj, iri, irj, hb', hcs, ci0, ci1, ci2, cj0, cj1, cj2, s0, s1, s2, hbn, hbn', hbn1, hbn1', hf', hw, g13, gl, q27, g14, gg, q27, k11, gd3]
                                       repeat' (first | (refine W.forkP (fun hc33 => ?_) (fun hc33 => ?_) <;> simp (config := { maxSteps := 10000000 }) only [go_sem, ↓forkQ_true, ↓forkQ_false, ↓guardQ_some, ↓resQ_val, ↓resQ_unit, ↓resQ_enter, ↓retQ_some, ↓resFQ_val, ↓resFQ_unit, ↓resFQ_enter, ↓retFQ_some, Nat.reduceEqDiff, reduceIte, Nat.reduceAdd, Nat.reduceMul, Nat.reduceSub, reduceCtorEq, Nat.reduceLeDiff, f0_30, f3_30, f4_30, f5_30, f6_30, f7_30, f8_30, f9_30, f10_30, f11_30, f12_30, f13_30, f14_30, f129_30, t10, t12, t14, t16, t26, t27, hadd, haddj, iri, irj, hb', hcs, ci0, ci1, ci2, cj0, cj1, cj2, s0, s1, s2, hbn, hbn', hbn1, hbn1', hf', hw, g13, gl, q27, g14, gg, q27, k11, gd3, hc33]) | (refine W.fork (fun hc33 => ?_) (fun hc33 => ?_) <;> simp (config := { maxSteps := 10000000 }) only [go_sem, ↓forkQ_true, ↓forkQ_false, ↓guardQ_some, ↓resQ_val, ↓resQ_unit, ↓resQ_enter, ↓retQ_some, ↓resFQ_val, ↓resFQ_unit, ↓resFQ_enter, ↓retFQ_some, Nat.reduceEqDiff, reduceIte, Nat.reduceAdd, Nat.reduceMul, Nat.reduceSub, reduceCtorEq, Nat.reduceLeDiff, f0_30, f3_30, f4_30, f5_30, f6_30, f7_30, f8_30, f9_30, f10_30, f11_30, f12_30, f13_30, f14_30, f129_30, t10, t12, t14, t16, t26, t27, hadd, haddj, iri, irj, hb', hcs, ci0, ci1, ci2, cj0, cj1, cj2, s0, s1, s2, hbn, hbn', hbn1, hbn1', hf', hw, g13, gl, q27, g14, gg, q27, k11, gd3, hc33]))
                                       all_goals
                                         refine hK _ _ ?_
                                         clear hK K A gd3
                                         refine W.forget (fun e33 he33 => ?_)
                                         have f0_33 := congrArg (fun q => Env.get q 0) he33
                                         simp only [go_sem, Nat.reduceEqDiff, reduceIte, f0_30] at f0_33
                                         have f3_33 := congrArg (fun q => Env.get q 3) he33
                                         simp only [go_sem, Nat.reduceEqDiff, reduceIte, f3_30] at f3_33
                                         have f4_33 := congrArg (fun q => Env.get q 4) he33
                                         simp only [go_sem, Nat.reduceEqDiff, reduceIte, f4_30] at f4_33
                                         have f5_33 := congrArg (fun q => Env.get q 5) he33
                                         simp only [go_sem, Nat.reduceEqDiff, reduceIte, f5_30] at f5_33
                                         have f6_33 := congrArg (fun q => Env.get q 6) he33
                                         simp only [go_sem, Nat.reduceEqDiff, reduceIte, f6_30] at f6_33
                                         have f7_33 := congrArg (fun q => Env.get q 7) he33
                                         simp only [go_sem, Nat.reduceEqDiff, reduceIte, f7_30] at f7_33
                                         have f8_33 := congrArg (fun q => Env.get q 8) he33
                                         simp only [go_sem, Nat.reduceEqDiff, reduceIte, f8_30] at f8_33
                                         have f9_33 := congrArg (fun q => Env.get q 9) he33
                                         simp only [go_sem, Nat.reduceEqDiff, reduceIte, f9_30] at f9_33
                                         have f10_33 := congrArg (fun q => Env.get q 10) he33
                                         simp only [go_sem, Nat.reduceEqDiff, reduceIte, f10_30] at f10_33
                                         have f11_33 := congrArg (fun q => Env.get q 11) he33
                                         simp only [go_sem, Nat.reduceEqDiff, reduceIte, f11_30] at f11_33
                                         have f12_33 := congrArg (fun q => Env.get q 12) he33
                                         simp only [go_sem, Nat.reduceEqDiff, reduceIte, f12_30] at f12_33
                                         have f13_33 := congrArg (fun q => Env.get q 13) he33
                                         simp only [go_sem, Nat.reduceEqDiff, reduceIte, f13_30] at f13_33
                                         have f14_33 := congrArg (fun q => Env.get q 14) he33
                                         simp only [go_sem, Nat.reduceEqDiff, reduceIte, f14_30] at f14_33
                                         have f137_33 := congrArg (fun q => Env.get q 137) he33
                                         simp only [go_sem, Nat.reduceEqDiff, reduceIte] at f137_33
                                         clear he33 f0_30 f3_30 f4_30 f5_30 f6_30 f7_30 f8_30 f9_30 f10_30 f11_30 f12_30 f13_30 f14_30 f129_30
                                         refine W.thenN ?_
                                         refine W.cond f137_33 (fun hc34 => ?_) (fun hc34 => ?_)
                                         · first
                                           | (cases hc34; done)
                                           | (exfalso; simp only [decide_eq_true_eq, decide_eq_false_iff_not, Bool.not_eq_true', Bool.not_eq_false', Bool.not_eq_eq_eq_not, Bool.not_true, Bool.not_false] at hc34; omega)
                                           | (skip
                                              try simp only [decide_eq_true_eq, decide_eq_false_iff_not, Bool.not_eq_true', Bool.not_eq_false', Bool.not_eq_eq_eq_not, Bool.not_true, Bool.not_false] at hc34
                                              refine W.seq ?_
                                              refine W.region (fun K hK => ?_)
                                              simp (config := { maxSteps := 10000000 }) only [go_sem, ↓forkQ_true, ↓forkQ_false, ↓guardQ_some, ↓resQ_val, ↓resQ_unit, ↓resQ_enter, ↓retQ_some, ↓resFQ_val, ↓resFQ_unit, ↓resFQ_enter, ↓retFQ_some, Nat.reduceEqDiff, reduceIte, Nat.reduceAdd, Nat.reduceMul, Nat.reduceSub, reduceCtorEq, Nat.reduceLeDiff, f0_33, f3_33, f4_33, f5_33, f6_33, f7_33, f8_33, f9_33, f10_33, f11_33, f12_33, f13_33, f14_33, f137_33, t10, t12, t14, t16, t26, t27, hadd, haddj, iri, irj, hb', hcs, ci0, ci1, ci2, cj0, cj1, cj2, s0, s1, s2, hbn, hbn', hbn1, hbn1', hf', hw, g13, gl, q27, g14, gg, q27, k11]
                                              refine hK _ _ ?_
                                              clear hK K
                                              refine W.forget (fun e35 he35 => ?_)
                                              have f0_35 := congrArg (fun q => Env.get q 0) he35
                                              simp only [go_sem, Nat.reduceEqDiff, reduceIte, f0_33] at f0_35
                                              have f2_35 := congrArg (fun q => Env.get q 2) he35
                                              simp only [go_sem, Nat.reduceEqDiff, reduceIte] at f2_35
                                              have f3_35 := congrArg (fun q => Env.get q 3) he35
                                              simp only [go_sem, Nat.reduceEqDiff, reduceIte, f3_33] at f3_35
                                              have f4_35 := congrArg (fun q => Env.get q 4) he35
                                              simp only [go_sem, Nat.reduceEqDiff, reduceIte, f4_33] at f4_35
                                              have f5_35 := congrArg (fun q => Env.get q 5) he35
                                              simp only [go_sem, Nat.reduceEqDiff, reduceIte, f5_33] at f5_35
                                              have f6_35 := congrArg (fun q => Env.get q 6) he35
                                              simp only [go_sem, Nat.reduceEqDiff, reduceIte, f6_33] at f6_35
                                              have f7_35 := congrArg (fun q => Env.get q 7) he35
                                              simp only [go_sem, Nat.reduceEqDiff, reduceIte, f7_33] at f7_35
                                              have f8_35 := congrArg (fun q => Env.get q 8) he35
                                              simp only [go_sem, Nat.reduceEqDiff, reduceIte, f8_33] at f8_35
                                              have f9_35 := congrArg (fun q => Env.get q 9) he35
                                              simp only [go_sem, Nat.reduceEqDiff, reduceIte, f9_33] at f9_35
                                              have f10_35 := congrArg (fun q => Env.get q 10) he35
                                              simp only [go_sem, Nat.reduceEqDiff, reduceIte, f10_33] at f10_35
                                              have f11_35 := congrArg (fun q => Env.get q 11) he35
                                              simp only [go_sem, Nat.reduceEqDiff, reduceIte, f11_33] at f11_35
                                              have f12_35 := congrArg (fun q => Env.get q 12) he35
                                              simp only [go_sem, Nat.reduceEqDiff, reduceIte, f12_33] at f12_35
                                              have f13_35 := congrArg (fun q => Env.get q 13) he35
                                              simp only [go_sem, Nat.reduceEqDiff, reduceIte, f13_33] at f13_35
                                              have f14_35 := congrArg (fun q => Env.get q 14) he35
                                              simp only [go_sem, Nat.reduceEqDiff, reduceIte, f14_33] at f14_35
                                              clear he35 f0_33 f3_33 f4_33 f5_33 f6_33 f7_33 f8_33 f9_33 f10_33 f11_33 f12_33 f13_33 f14_33 f137_33
                                              refine W.thenN ?_
                                              refine W.ret ?_
                                              refine W.thenR ?_
                                              refine W.blockR ?_
                                              refine W.thenR ?_
                                              refine W.thenR ?_
                                              refine W.blockR ?_
                                              refine W.blockR ?_
                                              refine W.thenR ?_
                                              refine W.thenR ?_
                                              refine W.blockR ?_
                                              refine W.thenR ?_
                                              rw [doneQ_ret]
                                              exact ⟨[.bool true], by simp only [go_sem, ↓forkQ_true, ↓forkQ_false, ↓guardQ_some, ↓resQ_val, ↓resQ_unit, ↓resQ_enter, ↓retQ_some, ↓resFQ_val, ↓resFQ_unit, ↓resFQ_enter, ↓retFQ_some, Nat.reduceEqDiff, reduceIte, Nat.reduceAdd, Nat.reduceMul, Nat.reduceSub, reduceCtorEq, Nat.reduceLeDiff, f0_35, f2_35, f3_35, f4_35, f5_35, f6_35, f7_35, f8_35, f9_35, f10_35, f11_35, f12_35, f13_35, f14_35], rfl⟩)
                                         · first
                                           | (cases hc34; done)
                                           | (exfalso; simp only [decide_eq_true_eq, decide_eq_false_iff_not, Bool.not_eq_true', Bool.not_eq_false', Bool.not_eq_eq_eq_not, Bool.not_true, Bool.not_false] at hc34; omega)
                                           | (skip
                                              try simp only [decide_eq_true_eq, decide_eq_false_iff_not, Bool.not_eq_true', Bool.not_eq_false', Bool.not_eq_eq_eq_not, Bool.not_true, Bool.not_false] at hc34
                                              refine W.skip ?_
                                              refine W.thenN ?_
                                              refine W.seq ?_
                                              refine W.regionA (fun A hA K hK => ?_)
                                              have gd1 := guardAt hA (j := 1) (d := 139) rfl
                                              clear hA
                                              simp (config := { maxSteps := 10000000 }) only [go_sem, ↓forkQ_true, ↓forkQ_false, ↓guardQ_some, ↓resQ_val, ↓resQ_unit, ↓resQ_enter, ↓retQ_some, ↓resFQ_val, ↓resFQ_unit, ↓resFQ_enter, ↓retFQ_some, Nat.reduceEqDiff, reduceIte, Nat.reduceAdd, Nat.reduceMul, Nat.reduceSub, reduceCtorEq, Nat.reduceLeDiff, f0_33, f3_33, f4_33, f5_33, f6_33, f7_33, f8_33, f9_33, f10_33, f11_33, f12_33, f13_33, f14_33, f137_33, t10, t12, t14, t16, t26, t27, hadd, haddj, iri, irj, hb', hcs, ci0, ci1, ci2, cj0, cj1, cj2, s0, s1, s2, hbn, hbn', hbn1, hbn1', hf', hw, g13, gl, q27, g14, gg, q27, k11, gd1]
                                              repeat' (first | (refine W.forkP (fun hc36 => ?_) (fun hc36 => ?_) <;> simp (config := { maxSteps := 10000000 }) only [go_sem, ↓forkQ_true, ↓forkQ_false, ↓guardQ_some, ↓resQ_val, ↓resQ_unit, ↓resQ_enter, ↓retQ_some, ↓resFQ_val, ↓resFQ_unit, ↓resFQ_enter, ↓retFQ_some, Nat.reduceEqDiff, reduceIte, Nat.reduceAdd, Nat.reduceMul, Nat.reduceSub, reduceCtorEq, Nat.reduceLeDiff, f0_33, f3_33, f4_33, f5_33, f6_33, f7_33, f8_33, f9_33, f10_33, f11_33, f12_33, f13_33, f14_33, f137_33, t10, t12, t14, t16, t26, t27, hadd, haddj, iri, irj, hb', hcs, ci0, ci1, ci2, cj0, cj1, cj2, s0, s1, s2, hbn, hbn', hbn1, hbn1', hf', hw, g13, gl, q27, g14, gg, q27, k11, gd1, hc36]) | (refine W.fork (fun hc36 => ?_) (fun hc36 => ?_) <;> simp (config := { maxSteps := 10000000 }) only [go_sem, ↓forkQ_true, ↓forkQ_false, ↓guardQ_some, ↓resQ_val, ↓resQ_unit, ↓resQ_enter, ↓retQ_some, ↓resFQ_val, ↓resFQ_unit, ↓resFQ_enter, ↓retFQ_some, Nat.reduceEqDiff, reduceIte, Nat.reduceAdd, Nat.reduceMul, Nat.reduceSub, reduceCtorEq, Nat.reduceLeDiff, f0_33, f3_33, f4_33, f5_33, f6_33, f7_33, f8_33, f9_33, f10_33, f11_33, f12_33, f13_33, f14_33, f137_33, t10, t12, t14, t16, t26, t27, hadd, haddj, iri, irj, hb', hcs, ci0, ci1, ci2, cj0, cj1, cj2, s0, s1, s2, hbn, hbn', hbn1, hbn1', hf', hw, g13, gl, q27, g14, gg, q27, k11, gd1, hc36]))
                                              all_goals
                                                refine hK _ _ ?_
                                                clear hK K A gd1
                                                refine W.forget (fun e36 he36 => ?_)
                                                have f0_36 := congrArg (fun q => Env.get q 0) he36
                                                simp only [go_sem, Nat.reduceEqDiff, reduceIte, f0_33] at f0_36
                                                have f3_36 := congrArg (fun q => Env.get q 3) he36
                                                simp only [go_sem, Nat.reduceEqDiff, reduceIte, f3_33] at f3_36
                                                have f4_36 := congrArg (fun q => Env.get q 4) he36
                                                simp only [go_sem, Nat.reduceEqDiff, reduceIte, f4_33] at f4_36
                                                have f5_36 := congrArg (fun q => Env.get q 5) he36
                                                simp only [go_sem, Nat.reduceEqDiff, reduceIte, f5_33] at f5_36
                                                have f6_36 := congrArg (fun q => Env.get q 6) he36
                                                simp only [go_sem, Nat.reduceEqDiff, reduceIte, f6_33] at f6_36
                                                have f7_36 := congrArg (fun q => Env.get q 7) he36
                                                simp only [go_sem, Nat.reduceEqDiff, reduceIte, f7_33] at f7_36
                                                have f8_36 := congrArg (fun q => Env.get q 8) he36
                                                simp only [go_sem, Nat.reduceEqDiff, reduceIte, f8_33] at f8_36
                                                have f9_36 := congrArg (fun q => Env.get q 9) he36
                                                simp only [go_sem, Nat.reduceEqDiff, reduceIte, f9_33] at f9_36
                                                have f10_36 := congrArg (fun q => Env.get q 10) he36
                                                simp only [go_sem, Nat.reduceEqDiff, reduceIte, f10_33] at f10_36
                                                have f11_36 := congrArg (fun q => Env.get q 11) he36
                                                simp only [go_sem, Nat.reduceEqDiff, reduceIte, f11_33] at f11_36
                                                have f12_36 := congrArg (fun q => Env.get q 12) he36
                                                simp only [go_sem, Nat.reduceEqDiff, reduceIte, f12_33] at f12_36
                                                have f14_36 := congrArg (fun q => Env.get q 14) he36
                                                simp only [go_sem, Nat.reduceEqDiff, reduceIte, f14_33] at f14_36
                                                clear he36 f0_33 f3_33 f4_33 f5_33 f6_33 f7_33 f8_33 f9_33 f10_33 f11_33 f12_33 f13_33 f14_33 f137_33
                                                refine W.thenN ?_
                                                refine W.regionA (fun A hA K hK => ?_)
                                                have gd1 := guardAt hA (j := 1) (d := 152) rfl
                                                clear hA
                                                simp (config := { maxSteps := 10000000 }) only [go_sem, ↓forkQ_true, ↓forkQ_false, ↓guardQ_some, ↓resQ_val, ↓resQ_unit, ↓resQ_enter, ↓retQ_some, ↓resFQ_val, ↓resFQ_unit, ↓resFQ_enter, ↓retFQ_some, Nat.reduceEqDiff, reduceIte, Nat.reduceAdd, Nat.reduceMul, Nat.reduceSub, reduceCtorEq, Nat.reduceLeDiff, f0_36, f3_36, f4_36, f5_36, f6_36, f7_36, f8_36, f9_36, f10_36, f11_36, f12_36, f14_36, t10, t12, t14, t16, t26, t27, hadd, haddj, iri, irj, hb', hcs, ci0, ci1, ci2, cj0, cj1, cj2, s0, s1, s2, hbn, hbn', hbn1, hbn1', hf', hw, g13, gl, q27, g14, gg, q27, k11, gd1]
                                                repeat' (first | (refine W.forkP (fun hc37 => ?_) (fun hc37 => ?_) <;> simp (config := { maxSteps := 10000000 }) only [go_sem, ↓forkQ_true, ↓forkQ_false, ↓guardQ_some, ↓resQ_val, ↓resQ_unit, ↓resQ_enter, ↓retQ_some, ↓resFQ_val, ↓resFQ_unit, ↓resFQ_enter, ↓retFQ_some, Nat.reduceEqDiff, reduceIte, Nat.reduceAdd, Nat.reduceMul, Nat.reduceSub, reduceCtorEq, Nat.reduceLeDiff, f0_36, f3_36, f4_36, f5_36, f6_36, f7_36, f8_36, f9_36, f10_36, f11_36, f12_36, f14_36, t10, t12, t14, t16, t26, t27, hadd, haddj, iri, irj, hb', hcs, ci0, ci1, ci2, cj0, cj1, cj2, s0, s1, s2, hbn, hbn', hbn1, hbn1', hf', hw, g13, gl, q27, g14, gg, q27, k11, gd1, hc37]) | (refine W.fork (fun hc37 => ?_) (fun hc37 => ?_) <;> simp (config := { maxSteps := 10000000 }) only [go_sem, ↓forkQ_true, ↓forkQ_false, ↓guardQ_some, ↓resQ_val, ↓resQ_unit, ↓resQ_enter, ↓retQ_some, ↓resFQ_val, ↓resFQ_unit, ↓resFQ_enter, ↓retFQ_some, Nat.reduceEqDiff, reduceIte, Nat.reduceAdd, Nat.reduceMul, Nat.reduceSub, reduceCtorEq, Nat.reduceLeDiff, f0_36, f3_36, f4_36, f5_36, f6_36, f7_36, f8_36, f9_36, f10_36, f11_36, f12_36, f14_36, t10, t12, t14, t16, t26, t27, hadd, haddj, iri, irj, hb', hcs, ci0, ci1, ci2, cj0, cj1, cj2, s0, s1, s2, hbn, hbn', hbn1, hbn1', hf', hw, g13, gl, q27, g14, gg, q27, k11, gd1, hc37]))
                                                all_goals
                                                  refine hK _ _ ?_
                                                  clear hK K A gd1
                                                  refine W.forget (fun e37 he37 => ?_)
                                                  have f0_37 := congrArg (fun q => Env.get q 0) he37
                                                  simp only [go_sem, Nat.reduceEqDiff, reduceIte, f0_36] at f0_37
                                                  have f3_37 := congrArg (fun q => Env.get q 3) he37
                                                  simp only [go_sem, Nat.reduceEqDiff, reduceIte, f3_36] at f3_37
                                                  have f4_37 := congrArg (fun q => Env.get q 4) he37
                                                  simp only [go_sem, Nat.reduceEqDiff, reduceIte, f4_36] at f4_37
                                                  have f5_37 := congrArg (fun q => Env.get q 5) he37
                                                  simp only [go_sem, Nat.reduceEqDiff, reduceIte, f5_36] at f5_37
                                                  have f6_37 := congrArg (fun q => Env.get q 6) he37
                                                  simp only [go_sem, Nat.reduceEqDiff, reduceIte, f6_36] at f6_37
                                                  have f7_37 := congrArg (fun q => Env.get q 7) he37
                                                  simp only [go_sem, Nat.reduceEqDiff, reduceIte, f7_36] at f7_37
                                                  have f8_37 := congrArg (fun q => Env.get q 8) he37
                                                  simp only [go_sem, Nat.reduceEqDiff, reduceIte, f8_36] at f8_37
                                                  have f9_37 := congrArg (fun q => Env.get q 9) he37
                                                  simp only [go_sem, Nat.reduceEqDiff, reduceIte, f9_36] at f9_37
                                                  have f10_37 := congrArg (fun q => Env.get q 10) he37
                                                  simp only [go_sem, Nat.reduceEqDiff, reduceIte, f10_36] at f10_37
                                                  have f11_37 := congrArg (fun q => Env.get q 11) he37
                                                  simp only [go_sem, Nat.reduceEqDiff, reduceIte, f11_36] at f11_37
                                                  clear he37 f0_36 f3_36 f4_36 f5_36 f6_36 f7_36 f8_36 f9_36 f10_36 f11_36 f12_36 f14_36
                                                  refine W.blockN ?_
                                                  refine W.thenN ?_
                                                  refine W.region (fun K hK => ?_)
                                                  simp (config := { maxSteps := 10000000 }) only [go_sem, ↓forkQ_true, ↓forkQ_false, ↓guardQ_some, ↓resQ_val, ↓resQ_unit, ↓resQ_enter, ↓retQ_some, ↓resFQ_val, ↓resFQ_unit, ↓resFQ_enter, ↓retFQ_some, Nat.reduceEqDiff, reduceIte, Nat.reduceAdd, Nat.reduceMul, Nat.reduceSub, reduceCtorEq, Nat.reduceLeDiff, f0_37, f3_37, f4_37, f5_37, f6_37, f7_37, f8_37, f9_37, f10_37, f11_37, t10, t12, t14, t16, t26, t27, hadd, haddj, iri, irj, hb', hcs, ci0, ci1, ci2, cj0, cj1, cj2, s0, s1, s2, hbn, hbn', hbn1, hbn1', hf', hw, g13, gl, q27, g14, gg, q27, k11]
                                                  refine hK _ _ ?_
                                                  clear hK K
                                                  refine W.forget (fun e38 he38 => ?_)
                                                  have f0_38 := congrArg (fun q => Env.get q 0) he38
                                                  simp only [go_sem, Nat.reduceEqDiff, reduceIte, f0_37] at f0_38
                                                  have f3_38 := congrArg (fun q => Env.get q 3) he38
                                                  simp only [go_sem, Nat.reduceEqDiff, reduceIte, f3_37] at f3_38
                                                  have f4_38 := congrArg (fun q => Env.get q 4) he38
                                                  simp only [go_sem, Nat.reduceEqDiff, reduceIte, f4_37] at f4_38
                                                  have f5_38 := congrArg (fun q => Env.get q 5) he38
                                                  simp only [go_sem, Nat.reduceEqDiff, reduceIte, f5_37] at f5_38
                                                  have f6_38 := congrArg (fun q => Env.get q 6) he38
                                                  simp only [go_sem, Nat.reduceEqDiff, reduceIte, f6_37] at f6_38
                                                  have f7_38 := congrArg (fun q => Env.get q 7) he38
                                                  simp only [go_sem, Nat.reduceEqDiff, reduceIte, f7_37] at f7_38
                                                  have f8_38 := congrArg (fun q => Env.get q 8) he38
                                                  simp only [go_sem, Nat.reduceEqDiff, reduceIte, f8_37] at f8_38
                                                  have f9_38 := congrArg (fun q => Env.get q 9) he38
                                                  simp only [go_sem, Nat.reduceEqDiff, reduceIte, f9_37] at f9_38
                                                  have f10_38 := congrArg (fun q => Env.get q 10) he38
                                                  simp only [go_sem, Nat.reduceEqDiff, reduceIte, f10_37] at f10_38
                                                  have f11_38 := congrArg (fun q => Env.get q 11) he38
                                                  simp only [go_sem, Nat.reduceEqDiff, reduceIte, f11_37] at f11_38
                                                  clear he38 f0_37 f3_37 f4_37 f5_37 f6_37 f7_37 f8_37 f9_37 f10_37 f11_37
                                                  refine W.thenN ?_
                                                  exact ⟨j + 1, by dsimp only; omega, by rw [inn_step _ hltj, inn_step _ hltj, ← List.append_assoc, ← List.append_assoc]; exact t9, f0_38, f3_38, f4_38, f5_38, f6_38, f7_38, f8_38, f9_38, f10_38, f11_38, by omega, by omega⟩)))
                         · first
                           | (cases hc19; done)
                           | (exfalso; simp only [decide_eq_true_eq, decide_eq_false_iff_not, Bool.not_eq_true', Bool.not_eq_false', Bool.not_eq_eq_eq_not, Bool.not_true, Bool.not_false] at hc19; omega)
                           | (skip
                              try simp only [decide_eq_true_eq, decide_eq_false_iff_not, Bool.not_eq_true', Bool.not_eq_false', Bool.not_eq_eq_eq_not, Bool.not_true, Bool.not_false] at hc19
                              refine W.exit ?_
                              refine W.thenE ?_
                              refine W.thenE ?_
                              refine W.blockE ?_
                              refine W.blockN ?_
                              refine W.thenN ?_
                              refine W.region (fun K hK => ?_)
                              simp (config := { maxSteps := 10000000 }) only [go_sem, ↓forkQ_true, ↓forkQ_false, ↓guardQ_some, ↓resQ_val, ↓resQ_unit, ↓resQ_enter, ↓retQ_some, ↓resFQ_val, ↓resFQ_unit, ↓resFQ_enter, ↓retFQ_some, Nat.reduceEqDiff, reduceIte, Nat.reduceAdd, Nat.reduceMul, Nat.reduceSub, reduceCtorEq, Nat.reduceLeDiff, f0_18, f3_18, f4_18, f5_18, f6_18, f7_18, f8_18, f9_18, f10_18, f11_18, f80_18, t10, t12, t14, t16, t26, t27, hadd]
                              refine hK _ _ ?_
                              clear hK K
                              refine W.forget (fun e39 he39 => ?_)
                              have f0_39 := congrArg (fun q => Env.get q 0) he39
                              simp only [go_sem, Nat.reduceEqDiff, reduceIte, f0_18] at f0_39
                              have f3_39 := congrArg (fun q => Env.get q 3) he39
                              simp only [go_sem, Nat.reduceEqDiff, reduceIte, f3_18] at f3_39
                              have f4_39 := congrArg (fun q => Env.get q 4) he39
                              simp only [go_sem, Nat.reduceEqDiff, reduceIte, f4_18] at f4_39
                              have f5_39 := congrArg (fun q => Env.get q 5) he39
                              simp only [go_sem, Nat.reduceEqDiff, reduceIte, f5_18] at f5_39
                              have f6_39 := congrArg (fun q => Env.get q 6) he39
                              simp only [go_sem, Nat.reduceEqDiff, reduceIte, f6_18] at f6_39
                              have f7_39 := congrArg (fun q => Env.get q 7) he39
                              simp only [go_sem, Nat.reduceEqDiff, reduceIte, f7_18] at f7_39
                              have f8_39 := congrArg (fun q => Env.get q 8) he39
                              simp only [go_sem, Nat.reduceEqDiff, reduceIte, f8_18] at f8_39
                              have f9_39 := congrArg (fun q => Env.get q 9) he39
                              simp only [go_sem, Nat.reduceEqDiff, reduceIte, f9_18] at f9_39
                              have f10_39 := congrArg (fun q => Env.get q 10) he39
                              simp only [go_sem, Nat.reduceEqDiff, reduceIte, f10_18] at f10_39
                              clear he39 f0_18 f3_18 f4_18 f5_18 f6_18 f7_18 f8_18 f9_18 f10_18 f11_18 f80_18
                              refine W.thenN ?_
                              have tt := hj.t
                              obtain rfl : j = l.length := by omega
                              exact ⟨i + 1, by dsimp only; omega, by rw [outr_step, outr_step]; exact tt, f0_39, f3_39, f4_39, f5_39, f6_39, f7_39, f8_39, f9_39, f10_39, by omega⟩)
                       · exact ⟨by rw [inn_nil, inn_nil, List.append_nil, List.append_nil]; exact hi.t, f0_16, f3_16, f4_16, f5_16, f6_16, f7_16, f8_16, f9_16, f10_16, f11_16, by omega, by omega⟩)
                  · first
                    | (cases hc15; done)
                    | (exfalso; simp only [decide_eq_true_eq, decide_eq_false_iff_not, Bool.not_eq_true', Bool.not_eq_false', Bool.not_eq_eq_eq_not, Bool.not_true, Bool.not_false] at hc15; omega)
                    | (skip
                       try simp only [decide_eq_true_eq, decide_eq_false_iff_not, Bool.not_eq_true', Bool.not_eq_false', Bool.not_eq_eq_eq_not, Bool.not_true, Bool.not_false] at hc15
                       refine W.exit ?_
                       refine W.thenE ?_
                       refine W.thenE ?_
                       refine W.blockE ?_
                       refine W.thenN ?_
                       refine W.seq ?_
                       refine W.seq ?_
                       refine W.region (fun K hK => ?_)
                       simp (config := { maxSteps := 10000000 }) only [go_sem, ↓forkQ_true, ↓forkQ_false, ↓guardQ_some, ↓resQ_val, ↓resQ_unit, ↓resQ_enter, ↓retQ_some, ↓resFQ_val, ↓resFQ_unit, ↓resFQ_enter, ↓retFQ_some, Nat.reduceEqDiff, reduceIte, Nat.reduceAdd, Nat.reduceMul, Nat.reduceSub, reduceCtorEq, Nat.reduceLeDiff, f0_14, f3_14, f4_14, f5_14, f6_14, f7_14, f8_14, f9_14, f10_14, f72_14, t10, t12, t14, t16, t26, t27, k11]
                       refine hK _ _ ?_
                       clear hK K
                       refine W.forget (fun e40 he40 => ?_)
                       have f0_40 := congrArg (fun q => Env.get q 0) he40
                       simp only [go_sem, Nat.reduceEqDiff, reduceIte, f0_14] at f0_40
                       have f3_40 := congrArg (fun q => Env.get q 3) he40
                       simp only [go_sem, Nat.reduceEqDiff, reduceIte, f3_14] at f3_40
                       have f4_40 := congrArg (fun q => Env.get q 4) he40
                       simp only [go_sem, Nat.reduceEqDiff, reduceIte, f4_14] at f4_40
                       have f5_40 := congrArg (fun q => Env.get q 5) he40
                       simp only [go_sem, Nat.reduceEqDiff, reduceIte, f5_14] at f5_40
                       have f6_40 := congrArg (fun q => Env.get q 6) he40
                       simp only [go_sem, Nat.reduceEqDiff, reduceIte, f6_14] at f6_40
                       have f7_40 := congrArg (fun q => Env.get q 7) he40
                       simp only [go_sem, Nat.reduceEqDiff, reduceIte, f7_14] at f7_40
                       have f8_40 := congrArg (fun q => Env.get q 8) he40
                       simp only [go_sem, Nat.reduceEqDiff, reduceIte, f8_14] at f8_40
                       have f9_40 := congrArg (fun q => Env.get q 9) he40
                       simp only [go_sem, Nat.reduceEqDiff, reduceIte, f9_14] at f9_40
                       have f165_40 := congrArg (fun q => Env.get q 165) he40
                       simp only [go_sem, Nat.reduceEqDiff, reduceIte] at f165_40
                       clear he40 f0_14 f3_14 f4_14 f5_14 f6_14 f7_14 f8_14 f9_14 f10_14 f72_14
                       refine W.thenN ?_
                       refine W.cond f165_40 (fun hc41 => ?_) (fun hc41 => ?_)
                       · first
                         | (cases hc41; done)
                         | (exfalso; simp only [decide_eq_true_eq, decide_eq_false_iff_not, Bool.not_eq_true', Bool.not_eq_false', Bool.not_eq_eq_eq_not, Bool.not_true, Bool.not_false] at hc41; omega)
                         | (skip
                            try simp only [decide_eq_true_eq, decide_eq_false_iff_not, Bool.not_eq_true', Bool.not_eq_false', Bool.not_eq_eq_eq_not, Bool.not_true, Bool.not_false] at hc41
                            refine W.seq ?_
                            refine W.regionA (fun A hA K hK => ?_)
                            have gd2 := guardAt hA (j := 2) (d := 168) rfl
                            have gd7 := guardAt hA (j := 7) (d := 173) rfl
                            have gd12 := guardAt hA (j := 12) (d := 178) rfl
                            clear hA
                            obtain rfl : i = l.length := by omega
                            have gl := hi.t.gl
                            have gg := hi.t.gg
                            have q27 := c27 (grtF (outr (rgP l) l.length l.length)).1 (grtF (outr (rgP l) l.length l.length)).2 (lstF (outr (rlP l) l.length l.length)).1 (lstF (outr (rlP l) l.length l.length)).2 hi.t.dq hi.t.dp
                            rw [hle2] at q27
                            have q16 := c16 l a c k1 (hg.ext ex) hl
                            simp (config := { maxSteps := 10000000 }) only [go_sem, ↓forkQ_true, ↓forkQ_false, ↓guardQ_some, ↓resQ_val, ↓resQ_unit, ↓resQ_enter, ↓retQ_some, ↓resFQ_val, ↓resFQ_unit, ↓resFQ_enter, ↓retFQ_some, Nat.reduceEqDiff, reduceIte, Nat.reduceAdd, Nat.reduceMul, Nat.reduceSub, reduceCtorEq, Nat.reduceLeDiff, f0_40, f3_40, f4_40, f5_40, f6_40, f7_40, f8_40, f9_40, f165_40, t10, t12, t14, t16, t26, t27, k11, gl, gg, q27, q16, hpass, cfT_at, gd2, gd7, gd12]
                            repeat' (first | (refine W.forkP (fun hc42 => ?_) (fun hc42 => ?_) <;> simp (config := { maxSteps := 10000000 }) only [go_sem, ↓forkQ_true, ↓forkQ_false, ↓guardQ_some, ↓resQ_val, ↓resQ_unit, ↓resQ_enter, ↓retQ_some, ↓resFQ_val, ↓resFQ_unit, ↓resFQ_enter, ↓retFQ_some, Nat.reduceEqDiff, reduceIte, Nat.reduceAdd, Nat.reduceMul, Nat.reduceSub, reduceCtorEq, Nat.reduceLeDiff, f0_40, f3_40, f4_40, f5_40, f6_40, f7_40, f8_40, f9_40, f165_40, t10, t12, t14, t16, t26, t27, k11, gl, gg, q27, q16, hpass, cfT_at, gd2, gd7, gd12, hc42]) | (refine W.fork (fun hc42 => ?_) (fun hc42 => ?_) <;> simp (config := { maxSteps := 10000000 }) only [go_sem, ↓forkQ_true, ↓forkQ_false, ↓guardQ_some, ↓resQ_val, ↓resQ_unit, ↓resQ_enter, ↓retQ_some, ↓resFQ_val, ↓resFQ_unit, ↓resFQ_enter, ↓retFQ_some, Nat.reduceEqDiff, reduceIte, Nat.reduceAdd, Nat.reduceMul, Nat.reduceSub, reduceCtorEq, Nat.reduceLeDiff, f0_40, f3_40, f4_40, f5_40, f6_40, f7_40, f8_40, f9_40, f165_40, t10, t12, t14, t16, t26, t27, k11, gl, gg, q27, q16, hpass, cfT_at, gd2, gd7, gd12, hc42]))
                            all_goals
                              refine hK _ _ ?_
                              clear hK K A gd2 gd7 gd12
                              refine W.forget (fun e42 he42 => ?_)
                              have f0_42 := congrArg (fun q => Env.get q 0) he42
                              simp only [go_sem, Nat.reduceEqDiff, reduceIte, f0_40] at f0_42
                              have f2_42 := congrArg (fun q => Env.get q 2) he42
                              simp only [go_sem, Nat.reduceEqDiff, reduceIte] at f2_42
                              have f3_42 := congrArg (fun q => Env.get q 3) he42
                              simp only [go_sem, Nat.reduceEqDiff, reduceIte, f3_40] at f3_42
                              have f4_42 := congrArg (fun q => Env.get q 4) he42
                              simp only [go_sem, Nat.reduceEqDiff, reduceIte, f4_40] at f4_42
                              have f6_42 := congrArg (fun q => Env.get q 6) he42
                              simp only [go_sem, Nat.reduceEqDiff, reduceIte, f6_40] at f6_42
                              have f7_42 := congrArg (fun q => Env.get q 7) he42
                              simp only [go_sem, Nat.reduceEqDiff, reduceIte, f7_40] at f7_42
                              clear he42 f0_40 f3_40 f4_40 f5_40 f6_40 f7_40 f8_40 f9_40 f165_40
                              refine W.thenN ?_
                              refine W.ret ?_
                              refine W.thenR ?_
                              rw [doneQ_ret]
                              exact ⟨[.bool true], by simp only [go_sem, ↓forkQ_true, ↓forkQ_false, ↓guardQ_some, ↓resQ_val, ↓resQ_unit, ↓resQ_enter, ↓retQ_some, ↓resFQ_val, ↓resFQ_unit, ↓resFQ_enter, ↓retFQ_some, Nat.reduceEqDiff, reduceIte, Nat.reduceAdd, Nat.reduceMul, Nat.reduceSub, reduceCtorEq, Nat.reduceLeDiff, f0_42, f2_42, f3_42, f4_42, f6_42, f7_42], rfl⟩)
                       · first
                         | (cases hc41; done)
                         | (exfalso; simp only [decide_eq_true_eq, decide_eq_false_iff_not, Bool.not_eq_true', Bool.not_eq_false', Bool.not_eq_eq_eq_not, Bool.not_true, Bool.not_false] at hc41; omega)
                         | (skip
                            try simp only [decide_eq_true_eq, decide_eq_false_iff_not, Bool.not_eq_true', Bool.not_eq_false', Bool.not_eq_eq_eq_not, Bool.not_true, Bool.not_false] at hc41
                            refine W.skip ?_
                            refine W.thenN ?_
                            refine W.seq ?_
                            refine W.regionA (fun A hA K hK => ?_)
                            have gd1 := guardAt hA (j := 1) (d := 182) rfl
                            have gd4 := guardAt hA (j := 4) (d := 185) rfl
                            have gd10 := guardAt hA (j := 10) (d := 191) rfl
                            have gd14 := guardAt hA (j := 14) (d := 195) rfl
                            clear hA
                            simp (config := { maxSteps := 10000000 }) only [go_sem, ↓forkQ_true, ↓forkQ_false, ↓guardQ_some, ↓resQ_val, ↓resQ_unit, ↓resQ_enter, ↓retQ_some, ↓resFQ_val, ↓resFQ_unit, ↓resFQ_enter, ↓retFQ_some, Nat.reduceEqDiff, reduceIte, Nat.reduceAdd, Nat.reduceMul, Nat.reduceSub, reduceCtorEq, Nat.reduceLeDiff, f0_40, f3_40, f4_40, f5_40, f6_40, f7_40, f8_40, f9_40, f165_40, t10, t12, t14, t16, t26, t27, k11, gd1, gd4, gd10, gd14]
                            repeat' (first | (refine W.forkP (fun hc43 => ?_) (fun hc43 => ?_) <;> simp (config := { maxSteps := 10000000 }) only [go_sem, ↓forkQ_true, ↓forkQ_false, ↓guardQ_some, ↓resQ_val, ↓resQ_unit, ↓resQ_enter, ↓retQ_some, ↓resFQ_val, ↓resFQ_unit, ↓resFQ_enter, ↓retFQ_some, Nat.reduceEqDiff, reduceIte, Nat.reduceAdd, Nat.reduceMul, Nat.reduceSub, reduceCtorEq, Nat.reduceLeDiff, f0_40, f3_40, f4_40, f5_40, f6_40, f7_40, f8_40, f9_40, f165_40, t10, t12, t14, t16, t26, t27, k11, gd1, gd4, gd10, gd14, hc43]) | (refine W.fork (fun hc43 => ?_) (fun hc43 => ?_) <;> simp (config := { maxSteps := 10000000 }) only [go_sem, ↓forkQ_true, ↓forkQ_false, ↓guardQ_some, ↓resQ_val, ↓resQ_unit, ↓resQ_enter, ↓retQ_some, ↓resFQ_val, ↓resFQ_unit, ↓resFQ_enter, ↓retFQ_some, Nat.reduceEqDiff, reduceIte, Nat.reduceAdd, Nat.reduceMul, Nat.reduceSub, reduceCtorEq, Nat.reduceLeDiff, f0_40, f3_40, f4_40, f5_40, f6_40, f7_40, f8_40, f9_40, f165_40, t10, t12, t14, t16, t26, t27, k11, gd1, gd4, gd10, gd14, hc43]))
                            all_goals
                              refine hK _ _ ?_
                              clear hK K A gd1 gd4 gd10 gd14
                              refine W.forget (fun e43 he43 => ?_)
                              have f2_43 := congrArg (fun q => Env.get q 2) he43
                              simp only [go_sem, Nat.reduceEqDiff, reduceIte] at f2_43
                              clear he43 f0_40 f3_40 f4_40 f5_40 f6_40 f7_40 f8_40 f9_40 f165_40
                              refine W.thenN ?_
                              refine W.ret ?_
                              rw [doneQ_ret]
                              exact ⟨[.bool true], by simp only [go_sem, ↓forkQ_true, ↓forkQ_false, ↓guardQ_some, ↓resQ_val, ↓resQ_unit, ↓resQ_enter, ↓retQ_some, ↓resFQ_val, ↓resFQ_unit, ↓resFQ_enter, ↓retFQ_some, Nat.reduceEqDiff, reduceIte, Nat.reduceAdd, Nat.reduceMul, Nat.reduceSub, reduceCtorEq, Nat.reduceLeDiff, f2_43], rfl⟩))
                · exact ⟨t7, f0_12, f3_12, f4_12, f5_12, f6_12, f7_12, f8_12, f9_12, f10_12, Nat.zero_le _⟩))
end Go.Proofs.Ytlblocieleildaa
