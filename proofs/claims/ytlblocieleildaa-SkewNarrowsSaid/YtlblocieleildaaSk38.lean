/- The law of narrowing, walked. -/
import Derived.Test.YtlblocieleildaaSk7
import Derived.Test.YtlblocieleildaaSk22
import Derived.Test.YtlblocieleildaaSk37
import Derived.Test.YtlblocieleildaaTp2
set_option linter.unusedSimpArgs false
set_option linter.unusedVariables false
set_option maxRecDepth 20000
set_option maxHeartbeats 8000000
namespace Go.Proofs.Ytlblocieleildaa
open Go.Am

open Go.Plain
theorem cut_zero {cs : List Value} {o : Nat} (h : o ≤ cs.length) : cut cs o (0 * 3) = some [] := by
  unfold cut
  rw [Nat.zero_mul, Nat.add_zero, Nat.ble_eq_true_of_le h]
  simp
structure N9 (l : List Gt) (a : Option Addr) (c k : Nat) (x : Int) (h : Heap) (ar : Option Addr) (c3 : Nat) (e : Env) (h1 : Heap) : Prop where
  ex : Ext h h1
  gm : GA h1 (less1 l k) ar
  e0 : e.get 0 = .slice a l.length c
  e1 : e.get 1 = .int .i64 (k : Int)
  e2 : e.get 2 = .int .i64 x
  e7 : e.get 7 = .slice ar (l.length - 1) c3
theorem w9_ok (l : List Gt) (a : Option Addr) (c k : Nat) (x : Int) (h : Heap) (hg : GA h l a) (hgr0 : ∀ b blk, h.get b = some blk → blk.grow = none) (hcap : l.length ≤ c) (o : Ok l) (hl : l.length ≤ 24) (h3 : 3 ≤ l.length) (hk : k < l.length) (hp : passP l = true) (hx : 0 ≤ x ∧ x ≤ 1073741824) :
    ∃ code, Try.f9.body = some code ∧ Wp Try.prog cfT (SkH 9) code (doneQ Try.prog Try.f9.results.toList (fun vs _ => vs = [.bool true])) (Env.ofList [.slice a l.length c, .int .i64 (k : Int), .int .i64 x] 0) (h.low h.next) := by
  refine ⟨_, rfl, ?_⟩
  show Wp Try.prog cfT (SkH 9) _ (doneQ Try.prog [.tmp 6] _) _ _
  have t10 : cfT 10 = callW Try.prog SkH 10 := cfT_ne (by decide)
  have t12 : cfT 12 = callW Try.prog SkH 12 := cfT_ne (by decide)
  have t14 : cfT 14 = callW Try.prog SkH 14 := cfT_ne (by decide)
  have t16 : cfT 16 = callW Try.prog SkH 16 := cfT_ne (by decide)
  have t23 : cfT 23 = callW Try.prog SkH 23 := cfT_ne (by decide)
  have t26 : cfT 26 = callW Try.prog SkH 26 := cfT_ne (by decide)
  have t27 : cfT 27 = callW Try.prog SkH 27 := cfT_ne (by decide)
  have hf : ((l.length : Int) ≤ 24) = True := eq_true (by omega)
  have hz := (checkZ_ok l).2 o
  have h3f : ((l.length : Int) < 3) = False := eq_false (by omega)
  have kf1 : ((k : Int) < 0) = False := eq_false (by omega)
  have kf2 : ((l.length : Int) ≤ (k : Int)) = False := eq_false (by omega)
  have xf1 : (x < 0) = False := eq_false (by omega)
  have xf2 : (1073741824 < x) = False := eq_false (by omega)
  have q14 := c14 l a c (h.low h.next) (hg.ext (Ext.low h)) hl
  have q16 := c16 l a c (h.low h.next) (hg.ext (Ext.low h)) hl
  have hcase : k = 0 ∨ (0 < k ∧ k + 1 < l.length) ∨ (0 < k ∧ k + 1 = l.length) := by omega
  have hl1 := less1_len hk
  have o' := less1_ok o hk (by omega)
  have hp' := less1_pass o hp hk h3
  obtain ⟨sl1, le1⟩ := slP_val o hp (by omega)
  obtain ⟨sl2, le2⟩ := slP_val o' hp' (by omega)
  obtain ⟨at1, lw1, hi1⟩ := atP_val o hp (by omega) hx
  obtain ⟨at2, lw2, hi2⟩ := atP_val o' hp' (by omega) hx
  have rk := o.rng k hk
  obtain ⟨at3, lw3, hi3⟩ := atP_val o hp (by omega) (x := (gt l k).x) ⟨rk.1, rk.2.1⟩
  have gr := (greatR_min o (by omega)).low
  have kr := (leastR_max o (by omega)).low
  have gr' := (greatR_min o' (by omega)).low
  have kr' := (leastR_max o' (by omega)).low
  obtain ⟨m1, m2⟩ := ref_le o o' (by omega) (by omega) (fun p q _ h => less1_fe hk h) le1
  have ng1 := lw1.neg
  have ng2 := lw2.neg
  have ng3 := lw3.neg
  have ll : Low ⟨true, (gt l k).lo, 1⟩ := ⟨rfl, by show (0 : Int) < 1; decide, by show (1 : Int) ≤ _; decide, by show _ ≤ (gt l k).lo; omega, by show (gt l k).lo ≤ _; omega, by show Int.gcd _ 1 = 1; exact Int.gcd_one_right ..⟩
  have lh : Low ⟨true, (gt l k).hi, 1⟩ := ⟨rfl, by show (0 : Int) < 1; decide, by show (1 : Int) ≤ _; decide, by show _ ≤ (gt l k).hi; omega, by show (gt l k).hi ≤ _; omega, by show Int.gcd _ 1 = 1; exact Int.gcd_one_right ..⟩
  have x1 := lowBR_less o hk h3 hx
  have x2 := highR_less o hk h3 hx
  have x3 := lowBR_at o hk (by omega)
  have x4 := highR_at o hk (by omega)
  have r1 := c26 ((leastR l).n) ((leastR l).d) ⟨kr.n0, kr.n1⟩ ⟨kr.d0, kr.d1⟩ kr.g
  have r2 := c26 ((greatR l).n) ((greatR l).d) ⟨gr.n0, gr.n1⟩ ⟨gr.d0, gr.d1⟩ gr.g
  have r3 := c26 ((leastR (less1 l k)).n) ((leastR (less1 l k)).d) ⟨kr'.n0, kr'.n1⟩ ⟨kr'.d0, kr'.d1⟩ kr'.g
  have r4 := c26 ((greatR (less1 l k)).n) ((greatR (less1 l k)).d) ⟨gr'.n0, gr'.n1⟩ ⟨gr'.d0, gr'.d1⟩ gr'.g
  have r5 := c26 (-(lowBR l x).n) ((lowBR l x).d) ⟨ng1.n0, ng1.n1⟩ ⟨ng1.d0, ng1.d1⟩ ng1.g
  have r6 := c26 ((highR l x).n) ((highR l x).d) ⟨hi1.n0, hi1.n1⟩ ⟨hi1.d0, hi1.d1⟩ hi1.g
  have r7 := c26 (-(lowBR (less1 l k) x).n) ((lowBR (less1 l k) x).d) ⟨ng2.n0, ng2.n1⟩ ⟨ng2.d0, ng2.d1⟩ ng2.g
  have r8 := c26 ((highR (less1 l k) x).n) ((highR (less1 l k) x).d) ⟨hi2.n0, hi2.n1⟩ ⟨hi2.d0, hi2.d1⟩ hi2.g
  have s1 := c26 (-(lowBR l (gt l k).x).n) ((lowBR l (gt l k).x).d) ⟨ng3.n0, ng3.n1⟩ ⟨ng3.d0, ng3.d1⟩ ng3.g
  have s2 := c26 ((highR l (gt l k).x).n) ((highR l (gt l k).x).d) ⟨hi3.n0, hi3.n1⟩ ⟨hi3.d0, hi3.d1⟩ hi3.g
  have p1 := c27 ((leastR l).n) ((leastR l).d) ((leastR (less1 l k)).n) ((leastR (less1 l k)).d) (Int.ne_of_gt kr.d0) (Int.ne_of_gt kr'.d0)
  rw [show lessZ ((leastR l).n) ((leastR l).d) ((leastR (less1 l k)).n) ((leastR (less1 l k)).d) = false from nless kr kr' m2] at p1
  have p2 := c27 ((greatR (less1 l k)).n) ((greatR (less1 l k)).d) ((greatR l).n) ((greatR l).d) (Int.ne_of_gt gr'.d0) (Int.ne_of_gt gr.d0)
  rw [show lessZ ((greatR (less1 l k)).n) ((greatR (less1 l k)).d) ((greatR l).n) ((greatR l).d) = false from nless gr' gr m1] at p2
  have p3 := c27 (-(lowBR l x).n) ((lowBR l x).d) (-(lowBR (less1 l k) x).n) ((lowBR (less1 l k) x).d) (Int.ne_of_gt ng1.d0) (Int.ne_of_gt ng2.d0)
  rw [show lessZ (-(lowBR l x).n) ((lowBR l x).d) (-(lowBR (less1 l k) x).n) ((lowBR (less1 l k) x).d) = false from nless ng1 ng2 (by dsimp only; rw [Int.neg_mul, Int.neg_mul]; omega)] at p3
  have p4 := c27 ((highR (less1 l k) x).n) ((highR (less1 l k) x).d) ((highR l x).n) ((highR l x).d) (Int.ne_of_gt hi2.d0) (Int.ne_of_gt hi1.d0)
  rw [show lessZ ((highR (less1 l k) x).n) ((highR (less1 l k) x).d) ((highR l x).n) ((highR l x).d) = false from nless hi2 hi1 x2] at p4
  have p5 := c27 (-(lowBR l (gt l k).x).n) ((lowBR l (gt l k).x).d) ((gt l k).lo) (1) (Int.ne_of_gt ng3.d0) (Int.ne_of_gt ll.d0)
  rw [show lessZ (-(lowBR l (gt l k).x).n) ((lowBR l (gt l k).x).d) ((gt l k).lo) (1) = false from nless ng3 ll (by dsimp only; rw [Int.neg_mul]; rw [Int.neg_mul] at x3; omega)] at p5
  have p6 := c27 ((gt l k).hi) (1) ((highR l (gt l k).x).n) ((highR l (gt l k).x).d) (Int.ne_of_gt lh.d0) (Int.ne_of_gt hi3.d0)
  rw [show lessZ ((gt l k).hi) (1) ((highR l (gt l k).x).n) ((highR l (gt l k).x).d) = false from nless lh hi3 x4] at p6
  refine W.forget (fun e1 he1 => ?_)
  have f0_1 := congrArg (fun q => Env.get q 0) he1
  simp only [ofList_cons, ofList_nil, go_sem, Nat.reduceEqDiff, reduceIte] at f0_1
  have f1_1 := congrArg (fun q => Env.get q 1) he1
  simp only [ofList_cons, ofList_nil, go_sem, Nat.reduceEqDiff, reduceIte] at f1_1
  have f2_1 := congrArg (fun q => Env.get q 2) he1
  simp only [ofList_cons, ofList_nil, go_sem, Nat.reduceEqDiff, reduceIte] at f2_1
  clear he1
  refine W.seq ?_
  refine W.region (fun K hK => ?_)
  simp (config := { maxSteps := 10000000 }) only [go_sem, ↓forkQ_true, ↓forkQ_false, ↓guardQ_some, ↓resQ_val, ↓resQ_unit, ↓resQ_enter, ↓retQ_some, ↓resFQ_val, ↓resFQ_unit, ↓resFQ_enter, ↓retFQ_some, Nat.reduceEqDiff, reduceIte, Nat.reduceAdd, Nat.reduceMul, Nat.reduceSub, reduceCtorEq, Nat.reduceLeDiff, f0_1, f1_1, f2_1, t10, t12, t14, t16, t23, t26, t27]
  refine hK _ _ ?_
  clear hK K
  refine W.forget (fun e2 he2 => ?_)
  have f0_2 := congrArg (fun q => Env.get q 0) he2
  simp only [go_sem, Nat.reduceEqDiff, reduceIte, f0_1] at f0_2
  have f1_2 := congrArg (fun q => Env.get q 1) he2
  simp only [go_sem, Nat.reduceEqDiff, reduceIte, f1_1] at f1_2
  have f2_2 := congrArg (fun q => Env.get q 2) he2
  simp only [go_sem, Nat.reduceEqDiff, reduceIte, f2_1] at f2_2
  have f6_2 := congrArg (fun q => Env.get q 6) he2
  simp only [go_sem, Nat.reduceEqDiff, reduceIte] at f6_2
  clear he2 f0_1 f1_1 f2_1
  refine W.thenN ?_
  refine W.seq ?_
  refine W.seq ?_
  refine W.regionA (fun A hA K hK => ?_)
  have gd3 := guardAt hA (j := 3) (d := 26) rfl
  have gd8 := guardAt hA (j := 8) (d := 31) rfl
  have gd13 := guardAt hA (j := 13) (d := 36) rfl
  have gd17 := guardAt hA (j := 17) (d := 40) rfl
  have gd23 := guardAt hA (j := 23) (d := 46) rfl
  have gd28 := guardAt hA (j := 28) (d := 51) rfl
  have gd32 := guardAt hA (j := 32) (d := 55) rfl
  clear hA
  simp (config := { maxSteps := 10000000 }) only [go_sem, ↓forkQ_true, ↓forkQ_false, ↓guardQ_some, ↓resQ_val, ↓resQ_unit, ↓resQ_enter, ↓retQ_some, ↓resFQ_val, ↓resFQ_unit, ↓resFQ_enter, ↓retFQ_some, Nat.reduceEqDiff, reduceIte, Nat.reduceAdd, Nat.reduceMul, Nat.reduceSub, reduceCtorEq, Nat.reduceLeDiff, f0_2, f1_2, f2_2, f6_2, t10, t12, t14, t16, t23, t26, t27, c10, hf, q14, hz, h3f, kf1, kf2, q16, hp, xf1, xf2, gd3, gd8, gd13, gd17, gd23, gd28, gd32]
  repeat' (first | (refine W.forkP (fun hc3 => ?_) (fun hc3 => ?_) <;> simp (config := { maxSteps := 10000000 }) only [go_sem, ↓forkQ_true, ↓forkQ_false, ↓guardQ_some, ↓resQ_val, ↓resQ_unit, ↓resQ_enter, ↓retQ_some, ↓resFQ_val, ↓resFQ_unit, ↓resFQ_enter, ↓retFQ_some, Nat.reduceEqDiff, reduceIte, Nat.reduceAdd, Nat.reduceMul, Nat.reduceSub, reduceCtorEq, Nat.reduceLeDiff, f0_2, f1_2, f2_2, f6_2, t10, t12, t14, t16, t23, t26, t27, c10, hf, q14, hz, h3f, kf1, kf2, q16, hp, xf1, xf2, gd3, gd8, gd13, gd17, gd23, gd28, gd32, hc3]) | (refine W.fork (fun hc3 => ?_) (fun hc3 => ?_) <;> simp (config := { maxSteps := 10000000 }) only [go_sem, ↓forkQ_true, ↓forkQ_false, ↓guardQ_some, ↓resQ_val, ↓resQ_unit, ↓resQ_enter, ↓retQ_some, ↓resFQ_val, ↓resFQ_unit, ↓resFQ_enter, ↓retFQ_some, Nat.reduceEqDiff, reduceIte, Nat.reduceAdd, Nat.reduceMul, Nat.reduceSub, reduceCtorEq, Nat.reduceLeDiff, f0_2, f1_2, f2_2, f6_2, t10, t12, t14, t16, t23, t26, t27, c10, hf, q14, hz, h3f, kf1, kf2, q16, hp, xf1, xf2, gd3, gd8, gd13, gd17, gd23, gd28, gd32, hc3]))
  all_goals
    refine hK _ _ ?_
    clear hK K A gd3 gd8 gd13 gd17 gd23 gd28 gd32
    refine W.forget (fun e3 he3 => ?_)
    have f0_3 := congrArg (fun q => Env.get q 0) he3
    simp only [go_sem, Nat.reduceEqDiff, reduceIte, f0_2] at f0_3
    have f1_3 := congrArg (fun q => Env.get q 1) he3
    simp only [go_sem, Nat.reduceEqDiff, reduceIte, f1_2] at f1_3
    have f2_3 := congrArg (fun q => Env.get q 2) he3
    simp only [go_sem, Nat.reduceEqDiff, reduceIte, f2_2] at f2_3
    have f6_3 := congrArg (fun q => Env.get q 6) he3
    simp only [go_sem, Nat.reduceEqDiff, reduceIte, f6_2] at f6_3
    have f58_3 := congrArg (fun q => Env.get q 58) he3
    simp only [go_sem, Nat.reduceEqDiff, reduceIte] at f58_3
    clear he3 f0_2 f1_2 f2_2 f6_2
    refine W.thenN ?_
    refine W.cond f58_3 (fun hc4 => ?_) (fun hc4 => ?_)
    · first
      | (cases hc4; done)
      | (exfalso; simp only [decide_eq_true_eq, decide_eq_false_iff_not, Bool.not_eq_true', Bool.not_eq_false', Bool.not_eq_eq_eq_not, Bool.not_true, Bool.not_false] at hc4; omega)
      | (skip
         try simp only [decide_eq_true_eq, decide_eq_false_iff_not, Bool.not_eq_true', Bool.not_eq_false', Bool.not_eq_eq_eq_not, Bool.not_true, Bool.not_false] at hc4
         refine W.seq ?_
         refine W.region (fun K hK => ?_)
         simp (config := { maxSteps := 10000000 }) only [go_sem, ↓forkQ_true, ↓forkQ_false, ↓guardQ_some, ↓resQ_val, ↓resQ_unit, ↓resQ_enter, ↓retQ_some, ↓resFQ_val, ↓resFQ_unit, ↓resFQ_enter, ↓retFQ_some, Nat.reduceEqDiff, reduceIte, Nat.reduceAdd, Nat.reduceMul, Nat.reduceSub, reduceCtorEq, Nat.reduceLeDiff, f0_3, f1_3, f2_3, f6_3, f58_3, t10, t12, t14, t16, t23, t26, t27, c10, hf, q14, hz, h3f, kf1, kf2, q16, hp, xf1, xf2]
         refine hK _ _ ?_
         clear hK K
         refine W.forget (fun e5 he5 => ?_)
         have f0_5 := congrArg (fun q => Env.get q 0) he5
         simp only [go_sem, Nat.reduceEqDiff, reduceIte, f0_3] at f0_5
         have f1_5 := congrArg (fun q => Env.get q 1) he5
         simp only [go_sem, Nat.reduceEqDiff, reduceIte, f1_3] at f1_5
         have f2_5 := congrArg (fun q => Env.get q 2) he5
         simp only [go_sem, Nat.reduceEqDiff, reduceIte, f2_3] at f2_5
         have f6_5 := congrArg (fun q => Env.get q 6) he5
         simp only [go_sem, Nat.reduceEqDiff, reduceIte, f6_3] at f6_5
         clear he5 f0_3 f1_3 f2_3 f6_3 f58_3
         refine W.thenN ?_
         refine W.ret ?_
         refine W.thenR ?_
         rw [doneQ_ret]
         exact ⟨[.bool true], by simp only [go_sem, ↓forkQ_true, ↓forkQ_false, ↓guardQ_some, ↓resQ_val, ↓resQ_unit, ↓resQ_enter, ↓retQ_some, ↓resFQ_val, ↓resFQ_unit, ↓resFQ_enter, ↓retFQ_some, Nat.reduceEqDiff, reduceIte, Nat.reduceAdd, Nat.reduceMul, Nat.reduceSub, reduceCtorEq, Nat.reduceLeDiff, f0_5, f1_5, f2_5, f6_5], rfl⟩)
    · first
      | (cases hc4; done)
      | (exfalso; simp only [decide_eq_true_eq, decide_eq_false_iff_not, Bool.not_eq_true', Bool.not_eq_false', Bool.not_eq_eq_eq_not, Bool.not_true, Bool.not_false] at hc4; omega)
      | (skip
         try simp only [decide_eq_true_eq, decide_eq_false_iff_not, Bool.not_eq_true', Bool.not_eq_false', Bool.not_eq_eq_eq_not, Bool.not_true, Bool.not_false] at hc4
         refine W.skip ?_
         refine W.thenN ?_
         refine W.seq ?_
         refine W.join (M := (fun e h1 => ∃ ar c3, N9 l a c k x h ar c3 e h1)) ?_ (fun e6 k3 ⟨ar, c3, hm⟩ => ?_)
         · skip
           rcases hcase with hk0 | hk0 | hk0
           · skip
             obtain ⟨b0, blk, ext, rfl, hb, hcs, hbl⟩ := hg (ne_of_lt hk)
             have hgr := hgr0 b0 blk hb
             have b1 : (b0 < h.next) = True := eq_true hbl
             have b2 : (b0 < h.next + 1) = True := eq_true (by omega)
             have b3 : (b0 < h.next + 1 + 1) = True := eq_true (by omega)
             have n1 : (b0 = h.next) = False := eq_false (by omega)
             have n2 : (h.next = b0) = False := eq_false (by omega)
             have wk : wrapF .i64 ((k : Int) + 1) = ((k + 1 : Nat) : Int) := by rw [w64_in _ (by omega)]; omega
             generalize hH1 : (h.low h.next).alloc ⟨[], true, false, none⟩ = H1
             have ex1 : Ext h H1 := by rw [← hH1]; exact (Ext.low h).alloc _
             have nx1 : H1.next = h.next + 1 := by rw [← hH1]; rfl
             have hb1 := (ex1.get b0 hbl).trans hb
             have gE : H1.get h.next = some ⟨[], true, false, none⟩ := by rw [← hH1]; exact Heap.get_alloc_same (h.low h.next) _
             have S1 := slice_front (n := l.length) hb1 hgr (show k ≤ c by omega) (by omega)
             have cT := cut_take (ext := ext) (show k ≤ l.length by omega)
             have cD := cut_drop (ext := ext) (show k + 1 ≤ l.length by omega)
             rw [← hcs] at cT cD
             subst hk0
             obtain ⟨o2, c2, S2, ho2⟩ := slice_end hb1 hgr (show 0 + 1 ≤ l.length by omega) hcap
             have ho : o2 = (0 + 1) * 3 := by omega
             subst ho
             have A1 := app_none (c := c) hb1 cT gE (Nat.le_refl 0)
             obtain ⟨fl2, f2, A2, _, hf2⟩ := app_some (c := c2) (n := 0) hb1 cD (by omega) gE rfl (.inl rfl) (by omega)
             rw [hf2 rfl] at A2
             simp only [Nat.zero_add, List.nil_append, nx1] at A1 A2 S2
             have fin : GA (H1.alloc ⟨gcells (l.drop 1), fl2, false, some 3⟩) (less1 l 0) (some ⟨h.next + 1, 0, none⟩) := fun _ => ⟨_, _, [], rfl, by rw [← nx1]; exact Heap.get_alloc_same H1 _, by unfold less1; simp, by show h.next + 1 < H1.next + 1; omega⟩
             subst hH1
             refine W.drawP _ dr9_3 (fun K hK => ?_)
             simp (config := { maxSteps := 10000000 }) only [go_sem, ↓forkQ_true, ↓forkQ_false, ↓guardQ_some, ↓resQ_val, ↓resQ_unit, ↓resQ_enter, ↓retQ_some, ↓resFQ_val, ↓resFQ_unit, ↓resFQ_enter, ↓retFQ_some, Nat.reduceEqDiff, reduceIte, Nat.reduceAdd, Nat.reduceMul, Nat.reduceSub, reduceCtorEq, Nat.reduceLeDiff, f0_3, f1_3, f2_3, f6_3, f58_3, t10, t12, t14, t16, t23, t26, t27, c10, hf, q14, hz, h3f, kf1, kf2, q16, hp, xf1, xf2, Option.map_none, b1, b2, b3, n1, n2, wk, hb, S1, A1, S2, A2, nx1]
             refine hK _ _ _ (by simp only [go_sem, ↓forkQ_true, ↓forkQ_false, ↓guardQ_some, ↓resQ_val, ↓resQ_unit, ↓resQ_enter, ↓retQ_some, ↓resFQ_val, ↓resFQ_unit, ↓resFQ_enter, ↓retFQ_some, Nat.reduceEqDiff, reduceIte, Nat.reduceAdd, Nat.reduceMul, Nat.reduceSub, reduceCtorEq, Nat.reduceLeDiff, b1, b2, b3, n1, n2]) ?_
             clear hK K
             refine W.forget (fun e7 he7 => ?_)
             have f0_7 := congrArg (fun q => Env.get q 0) he7
             simp only [go_sem, Nat.reduceEqDiff, reduceIte, f0_3] at f0_7
             have f1_7 := congrArg (fun q => Env.get q 1) he7
             simp only [go_sem, Nat.reduceEqDiff, reduceIte, f1_3] at f1_7
             have f2_7 := congrArg (fun q => Env.get q 2) he7
             simp only [go_sem, Nat.reduceEqDiff, reduceIte, f2_3] at f2_7
             have f6_7 := congrArg (fun q => Env.get q 6) he7
             simp only [go_sem, Nat.reduceEqDiff, reduceIte, f6_3] at f6_7
             have f7_7 := congrArg (fun q => Env.get q 7) he7
             simp only [go_sem, Nat.reduceEqDiff, reduceIte] at f7_7
             clear he7 f0_3 f1_3 f2_3 f6_3 f58_3
             refine W.thenN ?_
             first
               | exact ⟨_, _, ex1.alloc _, fin, f0_7, f1_7, f2_7, f7_7⟩
               | exact ⟨_, _, fin.2, fin.1, f0_7, f1_7, f2_7, f7_7⟩
               | exact ⟨_, _, ex2, fin, f0_7, f1_7, f2_7, by rw [← el]; exact f7_7⟩
           · skip
             obtain ⟨b0, blk, ext, rfl, hb, hcs, hbl⟩ := hg (ne_of_lt hk)
             have hgr := hgr0 b0 blk hb
             have b1 : (b0 < h.next) = True := eq_true hbl
             have b2 : (b0 < h.next + 1) = True := eq_true (by omega)
             have b3 : (b0 < h.next + 1 + 1) = True := eq_true (by omega)
             have n1 : (b0 = h.next) = False := eq_false (by omega)
             have n2 : (h.next = b0) = False := eq_false (by omega)
             have wk : wrapF .i64 ((k : Int) + 1) = ((k + 1 : Nat) : Int) := by rw [w64_in _ (by omega)]; omega
             generalize hH1 : (h.low h.next).alloc ⟨[], true, false, none⟩ = H1
             have ex1 : Ext h H1 := by rw [← hH1]; exact (Ext.low h).alloc _
             have nx1 : H1.next = h.next + 1 := by rw [← hH1]; rfl
             have hb1 := (ex1.get b0 hbl).trans hb
             have gE : H1.get h.next = some ⟨[], true, false, none⟩ := by rw [← hH1]; exact Heap.get_alloc_same (h.low h.next) _
             have S1 := slice_front (n := l.length) hb1 hgr (show k ≤ c by omega) (by omega)
             have cT := cut_take (ext := ext) (show k ≤ l.length by omega)
             have cD := cut_drop (ext := ext) (show k + 1 ≤ l.length by omega)
             rw [← hcs] at cT cD
             obtain ⟨fl1, f1, A1, _, hf1⟩ := app_some (c := c) (n := 0) hb1 cT (by omega) gE rfl (.inl rfl) (by omega)
             rw [hf1 rfl] at A1
             simp only [Nat.zero_add, List.nil_append] at A1
             generalize hH2 : H1.alloc ⟨gcells (l.take k), fl1, false, some 3⟩ = H2
             have ex2 : Ext h H2 := by rw [← hH2]; exact ex1.alloc _
             have nx2 : H2.next = h.next + 1 + 1 := by rw [← hH2, ← nx1]; rfl
             have hb2 := (ex2.get b0 hbl).trans hb
             have gB : H2.get (h.next + 1) = some ⟨gcells (l.take k), fl1, false, some 3⟩ := by rw [← hH2, ← nx1]; exact Heap.get_alloc_same H1 _
             obtain ⟨o2, c2, S2, ho2⟩ := slice_end hb2 hgr (show k + 1 ≤ l.length by omega) hcap
             have ho : o2 = (k + 1) * 3 := by omega
             subst ho
             obtain ⟨fl2, f2, A2, hf2, _⟩ := app_some (c := c2) (n := k) hb2 cD (by omega) gB (by rw [gcells_len, List.length_take]; omega) (.inr rfl) (by omega)
             have el : k + (l.length - (k + 1)) = l.length - 1 := by omega
             rw [el, nx2] at A2
             rw [← gcells_app2] at hf2
             have fin : GA (H2.eff f2) (less1 l k) (some ⟨h.next + 1 + 1, 0, none⟩) ∧ Ext h (H2.eff f2) := by
               rcases hf2 with rfl | rfl
               · exact ⟨fun _ => ⟨_, _, [], rfl, by rw [← nx2]; exact Heap.get_alloc_same H2 _, (List.append_nil _).symm, by show h.next + 1 + 1 < H2.next + 1; omega⟩, ex2.alloc _⟩
               · exact ⟨fun _ => ⟨_, _, [], rfl, by rw [← nx2]; exact Heap.get_alloc_same (H2.kill _) _, (List.append_nil _).symm, by show h.next + 1 + 1 < H2.next + 1; omega⟩, (ex2.kill (by omega)).alloc _⟩
             subst hH2
             subst hH1
             refine W.drawP _ dr9_3 (fun K hK => ?_)
             simp (config := { maxSteps := 10000000 }) only [go_sem, ↓forkQ_true, ↓forkQ_false, ↓guardQ_some, ↓resQ_val, ↓resQ_unit, ↓resQ_enter, ↓retQ_some, ↓resFQ_val, ↓resFQ_unit, ↓resFQ_enter, ↓retFQ_some, Nat.reduceEqDiff, reduceIte, Nat.reduceAdd, Nat.reduceMul, Nat.reduceSub, reduceCtorEq, Nat.reduceLeDiff, f0_3, f1_3, f2_3, f6_3, f58_3, t10, t12, t14, t16, t23, t26, t27, c10, hf, q14, hz, h3f, kf1, kf2, q16, hp, xf1, xf2, Option.map_none, b1, b2, b3, n1, n2, wk, hb, S1, A1, S2, A2, nx1]
             refine hK _ _ _ (by simp only [go_sem, ↓forkQ_true, ↓forkQ_false, ↓guardQ_some, ↓resQ_val, ↓resQ_unit, ↓resQ_enter, ↓retQ_some, ↓resFQ_val, ↓resFQ_unit, ↓resFQ_enter, ↓retFQ_some, Nat.reduceEqDiff, reduceIte, Nat.reduceAdd, Nat.reduceMul, Nat.reduceSub, reduceCtorEq, Nat.reduceLeDiff, b1, b2, b3, n1, n2]) ?_
             clear hK K
             refine W.forget (fun e8 he8 => ?_)
             have f0_8 := congrArg (fun q => Env.get q 0) he8
             simp only [go_sem, Nat.reduceEqDiff, reduceIte, f0_3] at f0_8
             have f1_8 := congrArg (fun q => Env.get q 1) he8
             simp only [go_sem, Nat.reduceEqDiff, reduceIte, f1_3] at f1_8
             have f2_8 := congrArg (fun q => Env.get q 2) he8
             simp only [go_sem, Nat.reduceEqDiff, reduceIte, f2_3] at f2_8
             have f6_8 := congrArg (fun q => Env.get q 6) he8
             simp only [go_sem, Nat.reduceEqDiff, reduceIte, f6_3] at f6_8
             have f7_8 := congrArg (fun q => Env.get q 7) he8
             simp only [go_sem, Nat.reduceEqDiff, reduceIte] at f7_8
             clear he8 f0_3 f1_3 f2_3 f6_3 f58_3
             refine W.thenN ?_
             first
               | exact ⟨_, _, ex1.alloc _, fin, f0_8, f1_8, f2_8, f7_8⟩
               | exact ⟨_, _, fin.2, fin.1, f0_8, f1_8, f2_8, f7_8⟩
               | exact ⟨_, _, ex2, fin, f0_8, f1_8, f2_8, by rw [← el]; exact f7_8⟩
           · skip
             obtain ⟨b0, blk, ext, rfl, hb, hcs, hbl⟩ := hg (ne_of_lt hk)
             have hgr := hgr0 b0 blk hb
             have b1 : (b0 < h.next) = True := eq_true hbl
             have b2 : (b0 < h.next + 1) = True := eq_true (by omega)
             have b3 : (b0 < h.next + 1 + 1) = True := eq_true (by omega)
             have n1 : (b0 = h.next) = False := eq_false (by omega)
             have n2 : (h.next = b0) = False := eq_false (by omega)
             have wk : wrapF .i64 ((k : Int) + 1) = ((k + 1 : Nat) : Int) := by rw [w64_in _ (by omega)]; omega
             generalize hH1 : (h.low h.next).alloc ⟨[], true, false, none⟩ = H1
             have ex1 : Ext h H1 := by rw [← hH1]; exact (Ext.low h).alloc _
             have nx1 : H1.next = h.next + 1 := by rw [← hH1]; rfl
             have hb1 := (ex1.get b0 hbl).trans hb
             have gE : H1.get h.next = some ⟨[], true, false, none⟩ := by rw [← hH1]; exact Heap.get_alloc_same (h.low h.next) _
             have S1 := slice_front (n := l.length) hb1 hgr (show k ≤ c by omega) (by omega)
             have cT := cut_take (ext := ext) (show k ≤ l.length by omega)
             have cD := cut_drop (ext := ext) (show k + 1 ≤ l.length by omega)
             rw [← hcs] at cT cD
             obtain ⟨fl1, f1, A1, _, hf1⟩ := app_some (c := c) (n := 0) hb1 cT (by omega) gE rfl (.inl rfl) (by omega)
             rw [hf1 rfl] at A1
             simp only [Nat.zero_add, List.nil_append] at A1
             generalize hH2 : H1.alloc ⟨gcells (l.take k), fl1, false, some 3⟩ = H2
             have ex2 : Ext h H2 := by rw [← hH2]; exact ex1.alloc _
             have nx2 : H2.next = h.next + 1 + 1 := by rw [← hH2, ← nx1]; rfl
             have hb2 := (ex2.get b0 hbl).trans hb
             have gB : H2.get (h.next + 1) = some ⟨gcells (l.take k), fl1, false, some 3⟩ := by rw [← hH2, ← nx1]; exact Heap.get_alloc_same H1 _
             obtain ⟨o2, c2, S2, ho2⟩ := slice_end hb2 hgr (show k + 1 ≤ l.length by omega) hcap
             have hke : l.length - (k + 1) = 0 := by omega
             rw [hke] at S2
             have A2 := app_none (c := c2) hb2 (cut_zero (cs := blk.cells) (o := o2) (by rw [hcs, List.length_append, gcells_len]; omega)) gB (Nat.le_refl k)
             have fin : GA H2 (less1 l k) (some ⟨h.next + 1, 0, none⟩) := fun _ => ⟨_, _, [], rfl, gB, by unfold less1; rw [List.drop_eq_nil_of_le (by omega)]; simp, by omega⟩
             have el : k = l.length - 1 := by omega
             subst hH2
             subst hH1
             refine W.drawP _ dr9_3 (fun K hK => ?_)
             simp (config := { maxSteps := 10000000 }) only [go_sem, ↓forkQ_true, ↓forkQ_false, ↓guardQ_some, ↓resQ_val, ↓resQ_unit, ↓resQ_enter, ↓retQ_some, ↓resFQ_val, ↓resFQ_unit, ↓resFQ_enter, ↓retFQ_some, Nat.reduceEqDiff, reduceIte, Nat.reduceAdd, Nat.reduceMul, Nat.reduceSub, reduceCtorEq, Nat.reduceLeDiff, f0_3, f1_3, f2_3, f6_3, f58_3, t10, t12, t14, t16, t23, t26, t27, c10, hf, q14, hz, h3f, kf1, kf2, q16, hp, xf1, xf2, Option.map_none, b1, b2, b3, n1, n2, wk, hb, S1, A1, S2, A2, nx1]
             refine hK _ _ _ (by simp only [go_sem, ↓forkQ_true, ↓forkQ_false, ↓guardQ_some, ↓resQ_val, ↓resQ_unit, ↓resQ_enter, ↓retQ_some, ↓resFQ_val, ↓resFQ_unit, ↓resFQ_enter, ↓retFQ_some, Nat.reduceEqDiff, reduceIte, Nat.reduceAdd, Nat.reduceMul, Nat.reduceSub, reduceCtorEq, Nat.reduceLeDiff, b1, b2, b3, n1, n2]) ?_
             clear hK K
             refine W.forget (fun e9 he9 => ?_)
             have f0_9 := congrArg (fun q => Env.get q 0) he9
             simp only [go_sem, Nat.reduceEqDiff, reduceIte, f0_3] at f0_9
             have f1_9 := congrArg (fun q => Env.get q 1) he9
             simp only [go_sem, Nat.reduceEqDiff, reduceIte, f1_3] at f1_9
             have f2_9 := congrArg (fun q => Env.get q 2) he9
             simp only [go_sem, Nat.reduceEqDiff, reduceIte, f2_3] at f2_9
             have f6_9 := congrArg (fun q => Env.get q 6) he9
             simp only [go_sem, Nat.reduceEqDiff, reduceIte, f6_3] at f6_9
             have f7_9 := congrArg (fun q => Env.get q 7) he9
             simp only [go_sem, Nat.reduceEqDiff, reduceIte] at f7_9
             clear he9 f0_3 f1_3 f2_3 f6_3 f58_3
             refine W.thenN ?_
             first
               | exact ⟨_, _, ex1.alloc _, fin, f0_9, f1_9, f2_9, f7_9⟩
               | exact ⟨_, _, fin.2, fin.1, f0_9, f1_9, f2_9, f7_9⟩
               | exact ⟨_, _, ex2, fin, f0_9, f1_9, f2_9, by rw [← el]; exact f7_9⟩
         · skip
           have f0_6 := hm.e0
           have f1_6 := hm.e1
           have f2_6 := hm.e2
           have f7_6 := hm.e7
           have ex3 := hm.ex
           have gm3 := hm.gm
           clear f0_3 f1_3 f2_3 f6_3 f58_3
           refine W.seq ?_
           refine W.region (fun K hK => ?_)
           have wl3 : k3.wr ≤ k3.next := by rw [ex3.wr]; exact ex3.next
           have ga3 := hg.ext ex3
           have qa := c12 l a c k3 ga3 hl
           rw [sl1] at qa
           dsimp only [srv] at qa
           simp (config := { maxSteps := 10000000 }) only [go_sem, ↓forkQ_true, ↓forkQ_false, ↓guardQ_some, ↓resQ_val, ↓resQ_unit, ↓resQ_enter, ↓retQ_some, ↓resFQ_val, ↓resFQ_unit, ↓resFQ_enter, ↓retFQ_some, Nat.reduceEqDiff, reduceIte, Nat.reduceAdd, Nat.reduceMul, Nat.reduceSub, reduceCtorEq, Nat.reduceLeDiff, f0_6, f1_6, f2_6, f7_6, t10, t12, t14, t16, t23, t26, t27, c10, hf, q14, hz, h3f, kf1, kf2, q16, hp, xf1, xf2, qa]
           refine hK _ _ ?_
           clear hK K
           refine W.forget (fun e10 he10 => ?_)
           refine W.forgetH (fun k4 hk10 => ?_)
           obtain ⟨g4, u8, u9, nx4, wl4⟩ := two_new hk10 wl3
           clear hk10
           have f0_10 := congrArg (fun q => Env.get q 0) he10
           simp only [go_sem, Nat.reduceEqDiff, reduceIte, f0_6] at f0_10
           have f1_10 := congrArg (fun q => Env.get q 1) he10
           simp only [go_sem, Nat.reduceEqDiff, reduceIte, f1_6] at f1_10
           have f2_10 := congrArg (fun q => Env.get q 2) he10
           simp only [go_sem, Nat.reduceEqDiff, reduceIte, f2_6] at f2_10
           have f7_10 := congrArg (fun q => Env.get q 7) he10
           simp only [go_sem, Nat.reduceEqDiff, reduceIte, f7_6] at f7_10
           have f8_10 := congrArg (fun q => Env.get q 8) he10
           simp only [go_sem, Nat.reduceEqDiff, reduceIte] at f8_10
           have f9_10 := congrArg (fun q => Env.get q 9) he10
           simp only [go_sem, Nat.reduceEqDiff, reduceIte] at f9_10
           have f10_10 := congrArg (fun q => Env.get q 10) he10
           simp only [go_sem, Nat.reduceEqDiff, reduceIte] at f10_10
           clear he10 f0_6 f1_6 f2_6 f7_6
           refine W.thenN ?_
           refine W.seq ?_
           refine W.region (fun K hK => ?_)
           have qb := c12 (less1 l k) ar c3 k4 (gm3.grow g4) (by omega)
           rw [sl2, hl1] at qb
           dsimp only [srv] at qb
           simp (config := { maxSteps := 10000000 }) only [go_sem, ↓forkQ_true, ↓forkQ_false, ↓guardQ_some, ↓resQ_val, ↓resQ_unit, ↓resQ_enter, ↓retQ_some, ↓resFQ_val, ↓resFQ_unit, ↓resFQ_enter, ↓retFQ_some, Nat.reduceEqDiff, reduceIte, Nat.reduceAdd, Nat.reduceMul, Nat.reduceSub, reduceCtorEq, Nat.reduceLeDiff, f0_10, f1_10, f2_10, f7_10, f8_10, f9_10, f10_10, t10, t12, t14, t16, t23, t26, t27, c10, hf, q14, hz, h3f, kf1, kf2, q16, hp, xf1, xf2, qa, qb]
           refine hK _ _ ?_
           clear hK K
           refine W.forget (fun e11 he11 => ?_)
           refine W.forgetH (fun k5 hk11 => ?_)
           obtain ⟨g5, u11, u12, nx5, wl5⟩ := two_new hk11 wl4
           clear hk11
           have f0_11 := congrArg (fun q => Env.get q 0) he11
           simp only [go_sem, Nat.reduceEqDiff, reduceIte, f0_10] at f0_11
           have f1_11 := congrArg (fun q => Env.get q 1) he11
           simp only [go_sem, Nat.reduceEqDiff, reduceIte, f1_10] at f1_11
           have f2_11 := congrArg (fun q => Env.get q 2) he11
           simp only [go_sem, Nat.reduceEqDiff, reduceIte, f2_10] at f2_11
           have f7_11 := congrArg (fun q => Env.get q 7) he11
           simp only [go_sem, Nat.reduceEqDiff, reduceIte, f7_10] at f7_11
           have f8_11 := congrArg (fun q => Env.get q 8) he11
           simp only [go_sem, Nat.reduceEqDiff, reduceIte, f8_10] at f8_11
           have f9_11 := congrArg (fun q => Env.get q 9) he11
           simp only [go_sem, Nat.reduceEqDiff, reduceIte, f9_10] at f9_11
           have f10_11 := congrArg (fun q => Env.get q 10) he11
           simp only [go_sem, Nat.reduceEqDiff, reduceIte, f10_10] at f10_11
           have f11_11 := congrArg (fun q => Env.get q 11) he11
           simp only [go_sem, Nat.reduceEqDiff, reduceIte] at f11_11
           have f12_11 := congrArg (fun q => Env.get q 12) he11
           simp only [go_sem, Nat.reduceEqDiff, reduceIte] at f12_11
           have f13_11 := congrArg (fun q => Env.get q 13) he11
           simp only [go_sem, Nat.reduceEqDiff, reduceIte] at f13_11
           clear he11 f0_10 f1_10 f2_10 f7_10 f8_10 f9_10 f10_10
           refine W.thenN ?_
           refine W.seq ?_
           refine W.region (fun K hK => ?_)
           have qc := c23 l a c x k5 ((ga3.grow g4).grow g5) hl
           rw [at1] at qc
           dsimp only [srv] at qc
           simp (config := { maxSteps := 10000000 }) only [go_sem, ↓forkQ_true, ↓forkQ_false, ↓guardQ_some, ↓resQ_val, ↓resQ_unit, ↓resQ_enter, ↓retQ_some, ↓resFQ_val, ↓resFQ_unit, ↓resFQ_enter, ↓retFQ_some, Nat.reduceEqDiff, reduceIte, Nat.reduceAdd, Nat.reduceMul, Nat.reduceSub, reduceCtorEq, Nat.reduceLeDiff, f0_11, f1_11, f2_11, f7_11, f8_11, f9_11, f10_11, f11_11, f12_11, f13_11, t10, t12, t14, t16, t23, t26, t27, c10, hf, q14, hz, h3f, kf1, kf2, q16, hp, xf1, xf2, qa, qb, qc]
           refine hK _ _ ?_
           clear hK K
           refine W.forget (fun e12 he12 => ?_)
           refine W.forgetH (fun k6 hk12 => ?_)
           obtain ⟨g6, u14, u15, nx6, wl6⟩ := two_new hk12 wl5
           clear hk12
           have f0_12 := congrArg (fun q => Env.get q 0) he12
           simp only [go_sem, Nat.reduceEqDiff, reduceIte, f0_11] at f0_12
           have f1_12 := congrArg (fun q => Env.get q 1) he12
           simp only [go_sem, Nat.reduceEqDiff, reduceIte, f1_11] at f1_12
           have f2_12 := congrArg (fun q => Env.get q 2) he12
           simp only [go_sem, Nat.reduceEqDiff, reduceIte, f2_11] at f2_12
           have f7_12 := congrArg (fun q => Env.get q 7) he12
           simp only [go_sem, Nat.reduceEqDiff, reduceIte, f7_11] at f7_12
           have f8_12 := congrArg (fun q => Env.get q 8) he12
           simp only [go_sem, Nat.reduceEqDiff, reduceIte, f8_11] at f8_12
           have f9_12 := congrArg (fun q => Env.get q 9) he12
           simp only [go_sem, Nat.reduceEqDiff, reduceIte, f9_11] at f9_12
           have f10_12 := congrArg (fun q => Env.get q 10) he12
           simp only [go_sem, Nat.reduceEqDiff, reduceIte, f10_11] at f10_12
           have f11_12 := congrArg (fun q => Env.get q 11) he12
           simp only [go_sem, Nat.reduceEqDiff, reduceIte, f11_11] at f11_12
           have f12_12 := congrArg (fun q => Env.get q 12) he12
           simp only [go_sem, Nat.reduceEqDiff, reduceIte, f12_11] at f12_12
           have f13_12 := congrArg (fun q => Env.get q 13) he12
           simp only [go_sem, Nat.reduceEqDiff, reduceIte, f13_11] at f13_12
           have f14_12 := congrArg (fun q => Env.get q 14) he12
           simp only [go_sem, Nat.reduceEqDiff, reduceIte] at f14_12
           have f15_12 := congrArg (fun q => Env.get q 15) he12
           simp only [go_sem, Nat.reduceEqDiff, reduceIte] at f15_12
           have f16_12 := congrArg (fun q => Env.get q 16) he12
           simp only [go_sem, Nat.reduceEqDiff, reduceIte] at f16_12
           clear he12 f0_11 f1_11 f2_11 f7_11 f8_11 f9_11 f10_11 f11_11 f12_11 f13_11
           refine W.thenN ?_
           refine W.seq ?_
           refine W.region (fun K hK => ?_)
           have qd := c23 (less1 l k) ar c3 x k6 (((gm3.grow g4).grow g5).grow g6) (by omega)
           rw [at2, hl1] at qd
           dsimp only [srv] at qd
           simp (config := { maxSteps := 10000000 }) only [go_sem, ↓forkQ_true, ↓forkQ_false, ↓guardQ_some, ↓resQ_val, ↓resQ_unit, ↓resQ_enter, ↓retQ_some, ↓resFQ_val, ↓resFQ_unit, ↓resFQ_enter, ↓retFQ_some, Nat.reduceEqDiff, reduceIte, Nat.reduceAdd, Nat.reduceMul, Nat.reduceSub, reduceCtorEq, Nat.reduceLeDiff, f0_12, f1_12, f2_12, f7_12, f8_12, f9_12, f10_12, f11_12, f12_12, f13_12, f14_12, f15_12, f16_12, t10, t12, t14, t16, t23, t26, t27, c10, hf, q14, hz, h3f, kf1, kf2, q16, hp, xf1, xf2, qa, qb, qc, qd]
           refine hK _ _ ?_
           clear hK K
           refine W.forget (fun e13 he13 => ?_)
           refine W.forgetH (fun k7 hk13 => ?_)
           obtain ⟨g7, u17, u18, nx7, wl7⟩ := two_new hk13 wl6
           clear hk13
           have f0_13 := congrArg (fun q => Env.get q 0) he13
           simp only [go_sem, Nat.reduceEqDiff, reduceIte, f0_12] at f0_13
           have f1_13 := congrArg (fun q => Env.get q 1) he13
           simp only [go_sem, Nat.reduceEqDiff, reduceIte, f1_12] at f1_13
           have f8_13 := congrArg (fun q => Env.get q 8) he13
           simp only [go_sem, Nat.reduceEqDiff, reduceIte, f8_12] at f8_13
           have f9_13 := congrArg (fun q => Env.get q 9) he13
           simp only [go_sem, Nat.reduceEqDiff, reduceIte, f9_12] at f9_13
           have f10_13 := congrArg (fun q => Env.get q 10) he13
           simp only [go_sem, Nat.reduceEqDiff, reduceIte, f10_12] at f10_13
           have f11_13 := congrArg (fun q => Env.get q 11) he13
           simp only [go_sem, Nat.reduceEqDiff, reduceIte, f11_12] at f11_13
           have f12_13 := congrArg (fun q => Env.get q 12) he13
           simp only [go_sem, Nat.reduceEqDiff, reduceIte, f12_12] at f12_13
           have f13_13 := congrArg (fun q => Env.get q 13) he13
           simp only [go_sem, Nat.reduceEqDiff, reduceIte, f13_12] at f13_13
           have f14_13 := congrArg (fun q => Env.get q 14) he13
           simp only [go_sem, Nat.reduceEqDiff, reduceIte, f14_12] at f14_13
           have f15_13 := congrArg (fun q => Env.get q 15) he13
           simp only [go_sem, Nat.reduceEqDiff, reduceIte, f15_12] at f15_13
           have f16_13 := congrArg (fun q => Env.get q 16) he13
           simp only [go_sem, Nat.reduceEqDiff, reduceIte, f16_12] at f16_13
           have f17_13 := congrArg (fun q => Env.get q 17) he13
           simp only [go_sem, Nat.reduceEqDiff, reduceIte] at f17_13
           have f18_13 := congrArg (fun q => Env.get q 18) he13
           simp only [go_sem, Nat.reduceEqDiff, reduceIte] at f18_13
           have f19_13 := congrArg (fun q => Env.get q 19) he13
           simp only [go_sem, Nat.reduceEqDiff, reduceIte] at f19_13
           clear he13 f0_12 f1_12 f2_12 f7_12 f8_12 f9_12 f10_12 f11_12 f12_12 f13_12 f14_12 f15_12 f16_12
           refine W.thenN ?_
           refine W.seq ?_
           refine W.seq ?_
           refine W.regionA (fun A hA K hK => ?_)
           have gd2 := guardAt hA (j := 2) (d := 98) rfl
           have gd6 := guardAt hA (j := 6) (d := 102) rfl
           have gd10 := guardAt hA (j := 10) (d := 106) rfl
           clear hA
           simp (config := { maxSteps := 10000000 }) only [go_sem, ↓forkQ_true, ↓forkQ_false, ↓guardQ_some, ↓resQ_val, ↓resQ_unit, ↓resQ_enter, ↓retQ_some, ↓resFQ_val, ↓resFQ_unit, ↓resFQ_enter, ↓retFQ_some, Nat.reduceEqDiff, reduceIte, Nat.reduceAdd, Nat.reduceMul, Nat.reduceSub, reduceCtorEq, Nat.reduceLeDiff, f0_13, f1_13, f8_13, f9_13, f10_13, f11_13, f12_13, f13_13, f14_13, f15_13, f16_13, f17_13, f18_13, f19_13, t10, t12, t14, t16, t23, t26, t27, c10, hf, q14, hz, h3f, kf1, kf2, q16, hp, xf1, xf2, qa, qb, qc, qd, gd2, gd6, gd10]
           repeat' (first | (refine W.forkP (fun hc14 => ?_) (fun hc14 => ?_) <;> simp (config := { maxSteps := 10000000 }) only [go_sem, ↓forkQ_true, ↓forkQ_false, ↓guardQ_some, ↓resQ_val, ↓resQ_unit, ↓resQ_enter, ↓retQ_some, ↓resFQ_val, ↓resFQ_unit, ↓resFQ_enter, ↓retFQ_some, Nat.reduceEqDiff, reduceIte, Nat.reduceAdd, Nat.reduceMul, Nat.reduceSub, reduceCtorEq, Nat.reduceLeDiff, f0_13, f1_13, f8_13, f9_13, f10_13, f11_13, f12_13, f13_13, f14_13, f15_13, f16_13, f17_13, f18_13, f19_13, t10, t12, t14, t16, t23, t26, t27, c10, hf, q14, hz, h3f, kf1, kf2, q16, hp, xf1, xf2, qa, qb, qc, qd, gd2, gd6, gd10, hc14]) | (refine W.fork (fun hc14 => ?_) (fun hc14 => ?_) <;> simp (config := { maxSteps := 10000000 }) only [go_sem, ↓forkQ_true, ↓forkQ_false, ↓guardQ_some, ↓resQ_val, ↓resQ_unit, ↓resQ_enter, ↓retQ_some, ↓resFQ_val, ↓resFQ_unit, ↓resFQ_enter, ↓retFQ_some, Nat.reduceEqDiff, reduceIte, Nat.reduceAdd, Nat.reduceMul, Nat.reduceSub, reduceCtorEq, Nat.reduceLeDiff, f0_13, f1_13, f8_13, f9_13, f10_13, f11_13, f12_13, f13_13, f14_13, f15_13, f16_13, f17_13, f18_13, f19_13, t10, t12, t14, t16, t23, t26, t27, c10, hf, q14, hz, h3f, kf1, kf2, q16, hp, xf1, xf2, qa, qb, qc, qd, gd2, gd6, gd10, hc14]))
           all_goals
             refine hK _ _ ?_
             clear hK K A gd2 gd6 gd10
             refine W.forget (fun e14 he14 => ?_)
             have f0_14 := congrArg (fun q => Env.get q 0) he14
             simp only [go_sem, Nat.reduceEqDiff, reduceIte, f0_13] at f0_14
             have f1_14 := congrArg (fun q => Env.get q 1) he14
             simp only [go_sem, Nat.reduceEqDiff, reduceIte, f1_13] at f1_14
             have f8_14 := congrArg (fun q => Env.get q 8) he14
             simp only [go_sem, Nat.reduceEqDiff, reduceIte, f8_13] at f8_14
             have f9_14 := congrArg (fun q => Env.get q 9) he14
             simp only [go_sem, Nat.reduceEqDiff, reduceIte, f9_13] at f9_14
             have f11_14 := congrArg (fun q => Env.get q 11) he14
             simp only [go_sem, Nat.reduceEqDiff, reduceIte, f11_13] at f11_14
             have f12_14 := congrArg (fun q => Env.get q 12) he14
             simp only [go_sem, Nat.reduceEqDiff, reduceIte, f12_13] at f12_14
             have f14_14 := congrArg (fun q => Env.get q 14) he14
             simp only [go_sem, Nat.reduceEqDiff, reduceIte, f14_13] at f14_14
             have f15_14 := congrArg (fun q => Env.get q 15) he14
             simp only [go_sem, Nat.reduceEqDiff, reduceIte, f15_13] at f15_14
             have f17_14 := congrArg (fun q => Env.get q 17) he14
             simp only [go_sem, Nat.reduceEqDiff, reduceIte, f17_13] at f17_14
             have f18_14 := congrArg (fun q => Env.get q 18) he14
             simp only [go_sem, Nat.reduceEqDiff, reduceIte, f18_13] at f18_14
             have f109_14 := congrArg (fun q => Env.get q 109) he14
             simp only [go_sem, Nat.reduceEqDiff, reduceIte] at f109_14
             clear he14 f0_13 f1_13 f8_13 f9_13 f10_13 f11_13 f12_13 f13_13 f14_13 f15_13 f16_13 f17_13 f18_13 f19_13
             refine W.thenN ?_
             refine W.cond f109_14 (fun hc15 => ?_) (fun hc15 => ?_)
             · first
               | (cases hc15; done)
               | (exfalso; simp only [decide_eq_true_eq, decide_eq_false_iff_not, Bool.not_eq_true', Bool.not_eq_false', Bool.not_eq_eq_eq_not, Bool.not_true, Bool.not_false] at hc15; omega)
               | (skip
                  try simp only [decide_eq_true_eq, decide_eq_false_iff_not, Bool.not_eq_true', Bool.not_eq_false', Bool.not_eq_eq_eq_not, Bool.not_true, Bool.not_false] at hc15
                  refine W.seq ?_
                  refine W.region (fun K hK => ?_)
                  simp (config := { maxSteps := 10000000 }) only [go_sem, ↓forkQ_true, ↓forkQ_false, ↓guardQ_some, ↓resQ_val, ↓resQ_unit, ↓resQ_enter, ↓retQ_some, ↓resFQ_val, ↓resFQ_unit, ↓resFQ_enter, ↓retFQ_some, Nat.reduceEqDiff, reduceIte, Nat.reduceAdd, Nat.reduceMul, Nat.reduceSub, reduceCtorEq, Nat.reduceLeDiff, f0_14, f1_14, f8_14, f9_14, f11_14, f12_14, f14_14, f15_14, f17_14, f18_14, f109_14, t10, t12, t14, t16, t23, t26, t27, c10, hf, q14, hz, h3f, kf1, kf2, q16, hp, xf1, xf2, qa, qb, qc, qd]
                  refine hK _ _ ?_
                  clear hK K
                  refine W.forget (fun e16 he16 => ?_)
                  have f0_16 := congrArg (fun q => Env.get q 0) he16
                  simp only [go_sem, Nat.reduceEqDiff, reduceIte, f0_14] at f0_16
                  have f1_16 := congrArg (fun q => Env.get q 1) he16
                  simp only [go_sem, Nat.reduceEqDiff, reduceIte, f1_14] at f1_16
                  have f6_16 := congrArg (fun q => Env.get q 6) he16
                  simp only [go_sem, Nat.reduceEqDiff, reduceIte] at f6_16
                  have f8_16 := congrArg (fun q => Env.get q 8) he16
                  simp only [go_sem, Nat.reduceEqDiff, reduceIte, f8_14] at f8_16
                  have f9_16 := congrArg (fun q => Env.get q 9) he16
                  simp only [go_sem, Nat.reduceEqDiff, reduceIte, f9_14] at f9_16
                  have f11_16 := congrArg (fun q => Env.get q 11) he16
                  simp only [go_sem, Nat.reduceEqDiff, reduceIte, f11_14] at f11_16
                  have f12_16 := congrArg (fun q => Env.get q 12) he16
                  simp only [go_sem, Nat.reduceEqDiff, reduceIte, f12_14] at f12_16
                  have f14_16 := congrArg (fun q => Env.get q 14) he16
                  simp only [go_sem, Nat.reduceEqDiff, reduceIte, f14_14] at f14_16
                  have f15_16 := congrArg (fun q => Env.get q 15) he16
                  simp only [go_sem, Nat.reduceEqDiff, reduceIte, f15_14] at f15_16
                  have f17_16 := congrArg (fun q => Env.get q 17) he16
                  simp only [go_sem, Nat.reduceEqDiff, reduceIte, f17_14] at f17_16
                  have f18_16 := congrArg (fun q => Env.get q 18) he16
                  simp only [go_sem, Nat.reduceEqDiff, reduceIte, f18_14] at f18_16
                  clear he16 f0_14 f1_14 f8_14 f9_14 f11_14 f12_14 f14_14 f15_14 f17_14 f18_14 f109_14
                  refine W.thenN ?_
                  refine W.ret ?_
                  refine W.thenR ?_
                  rw [doneQ_ret]
                  exact ⟨[.bool true], by simp only [go_sem, ↓forkQ_true, ↓forkQ_false, ↓guardQ_some, ↓resQ_val, ↓resQ_unit, ↓resQ_enter, ↓retQ_some, ↓resFQ_val, ↓resFQ_unit, ↓resFQ_enter, ↓retFQ_some, Nat.reduceEqDiff, reduceIte, Nat.reduceAdd, Nat.reduceMul, Nat.reduceSub, reduceCtorEq, Nat.reduceLeDiff, f0_16, f1_16, f6_16, f8_16, f9_16, f11_16, f12_16, f14_16, f15_16, f17_16, f18_16], rfl⟩)
             · first
               | (cases hc15; done)
               | (exfalso; simp only [decide_eq_true_eq, decide_eq_false_iff_not, Bool.not_eq_true', Bool.not_eq_false', Bool.not_eq_eq_eq_not, Bool.not_true, Bool.not_false] at hc15; omega)
               | (skip
                  try simp only [decide_eq_true_eq, decide_eq_false_iff_not, Bool.not_eq_true', Bool.not_eq_false', Bool.not_eq_eq_eq_not, Bool.not_true, Bool.not_false] at hc15
                  refine W.skip ?_
                  refine W.thenN ?_
                  refine W.seq ?_
                  refine W.seq ?_
                  refine W.regionA (fun A hA K hK => ?_)
                  have gd3 := guardAt hA (j := 3) (d := 113) rfl
                  have gd8 := guardAt hA (j := 8) (d := 118) rfl
                  have gd13 := guardAt hA (j := 13) (d := 123) rfl
                  have gd18 := guardAt hA (j := 18) (d := 128) rfl
                  have gd23 := guardAt hA (j := 23) (d := 133) rfl
                  have gd28 := guardAt hA (j := 28) (d := 138) rfl
                  have gd33 := guardAt hA (j := 33) (d := 143) rfl
                  have gd38 := guardAt hA (j := 38) (d := 148) rfl
                  have gd43 := guardAt hA (j := 43) (d := 153) rfl
                  have gd48 := guardAt hA (j := 48) (d := 158) rfl
                  have gd53 := guardAt hA (j := 53) (d := 163) rfl
                  clear hA
                  have v15 := Grow.at g7 (by omega) u15
                  have v14 := Grow.at g7 (by omega) u14
                  have v12 := Grow.at (g6.trans g7) (by omega) u12
                  have v11 := Grow.at (g6.trans g7) (by omega) u11
                  have v9 := Grow.at (g5.trans (g6.trans g7)) (by omega) u9
                  have v8 := Grow.at (g5.trans (g6.trans g7)) (by omega) u8
                  simp (config := { maxSteps := 10000000 }) only [go_sem, ↓forkQ_true, ↓forkQ_false, ↓guardQ_some, ↓resQ_val, ↓resQ_unit, ↓resQ_enter, ↓retQ_some, ↓resFQ_val, ↓resFQ_unit, ↓resFQ_enter, ↓retFQ_some, Nat.reduceEqDiff, reduceIte, Nat.reduceAdd, Nat.reduceMul, Nat.reduceSub, reduceCtorEq, Nat.reduceLeDiff, f0_14, f1_14, f8_14, f9_14, f11_14, f12_14, f14_14, f15_14, f17_14, f18_14, f109_14, t10, t12, t14, t16, t23, t26, t27, c10, hf, q14, hz, h3f, kf1, kf2, q16, hp, xf1, xf2, qa, qb, qc, qd, u17, u18, v15, v14, v12, v11, v9, v8, r1, r2, r3, r4, r5, r6, r7, r8, p1, p2, p3, p4, gd3, gd8, gd13, gd18, gd23, gd28, gd33, gd38, gd43, gd48, gd53]
                  repeat' (first | (refine W.forkP (fun hc17 => ?_) (fun hc17 => ?_) <;> simp (config := { maxSteps := 10000000 }) only [go_sem, ↓forkQ_true, ↓forkQ_false, ↓guardQ_some, ↓resQ_val, ↓resQ_unit, ↓resQ_enter, ↓retQ_some, ↓resFQ_val, ↓resFQ_unit, ↓resFQ_enter, ↓retFQ_some, Nat.reduceEqDiff, reduceIte, Nat.reduceAdd, Nat.reduceMul, Nat.reduceSub, reduceCtorEq, Nat.reduceLeDiff, f0_14, f1_14, f8_14, f9_14, f11_14, f12_14, f14_14, f15_14, f17_14, f18_14, f109_14, t10, t12, t14, t16, t23, t26, t27, c10, hf, q14, hz, h3f, kf1, kf2, q16, hp, xf1, xf2, qa, qb, qc, qd, u17, u18, v15, v14, v12, v11, v9, v8, r1, r2, r3, r4, r5, r6, r7, r8, p1, p2, p3, p4, gd3, gd8, gd13, gd18, gd23, gd28, gd33, gd38, gd43, gd48, gd53, hc17]) | (refine W.fork (fun hc17 => ?_) (fun hc17 => ?_) <;> simp (config := { maxSteps := 10000000 }) only [go_sem, ↓forkQ_true, ↓forkQ_false, ↓guardQ_some, ↓resQ_val, ↓resQ_unit, ↓resQ_enter, ↓retQ_some, ↓resFQ_val, ↓resFQ_unit, ↓resFQ_enter, ↓retFQ_some, Nat.reduceEqDiff, reduceIte, Nat.reduceAdd, Nat.reduceMul, Nat.reduceSub, reduceCtorEq, Nat.reduceLeDiff, f0_14, f1_14, f8_14, f9_14, f11_14, f12_14, f14_14, f15_14, f17_14, f18_14, f109_14, t10, t12, t14, t16, t23, t26, t27, c10, hf, q14, hz, h3f, kf1, kf2, q16, hp, xf1, xf2, qa, qb, qc, qd, u17, u18, v15, v14, v12, v11, v9, v8, r1, r2, r3, r4, r5, r6, r7, r8, p1, p2, p3, p4, gd3, gd8, gd13, gd18, gd23, gd28, gd33, gd38, gd43, gd48, gd53, hc17]))
                  all_goals
                    refine hK _ _ ?_
                    clear hK K A gd3 gd8 gd13 gd18 gd23 gd28 gd33 gd38 gd43 gd48 gd53
                    refine W.forget (fun e17 he17 => ?_)
                    have f0_17 := congrArg (fun q => Env.get q 0) he17
                    simp only [go_sem, Nat.reduceEqDiff, reduceIte, f0_14] at f0_17
                    have f1_17 := congrArg (fun q => Env.get q 1) he17
                    simp only [go_sem, Nat.reduceEqDiff, reduceIte, f1_14] at f1_17
                    have f167_17 := congrArg (fun q => Env.get q 167) he17
                    simp only [go_sem, Nat.reduceEqDiff, reduceIte] at f167_17
                    clear he17 f0_14 f1_14 f8_14 f9_14 f11_14 f12_14 f14_14 f15_14 f17_14 f18_14 f109_14
                    refine W.thenN ?_
                    refine W.cond f167_17 (fun hc18 => ?_) (fun hc18 => ?_)
                    · first
                      | (cases hc18; done)
                      | (exfalso; simp only [decide_eq_true_eq, decide_eq_false_iff_not, Bool.not_eq_true', Bool.not_eq_false', Bool.not_eq_eq_eq_not, Bool.not_true, Bool.not_false] at hc18; omega)
                      | (skip
                         try simp only [decide_eq_true_eq, decide_eq_false_iff_not, Bool.not_eq_true', Bool.not_eq_false', Bool.not_eq_eq_eq_not, Bool.not_true, Bool.not_false] at hc18
                         refine W.seq ?_
                         refine W.region (fun K hK => ?_)
                         simp (config := { maxSteps := 10000000 }) only [go_sem, ↓forkQ_true, ↓forkQ_false, ↓guardQ_some, ↓resQ_val, ↓resQ_unit, ↓resQ_enter, ↓retQ_some, ↓resFQ_val, ↓resFQ_unit, ↓resFQ_enter, ↓retFQ_some, Nat.reduceEqDiff, reduceIte, Nat.reduceAdd, Nat.reduceMul, Nat.reduceSub, reduceCtorEq, Nat.reduceLeDiff, f0_17, f1_17, f167_17, t10, t12, t14, t16, t23, t26, t27, c10, hf, q14, hz, h3f, kf1, kf2, q16, hp, xf1, xf2, qa, qb, qc, qd, u17, u18, v15, v14, v12, v11, v9, v8, r1, r2, r3, r4, r5, r6, r7, r8, p1, p2, p3, p4]
                         refine hK _ _ ?_
                         clear hK K
                         refine W.forget (fun e19 he19 => ?_)
                         have f0_19 := congrArg (fun q => Env.get q 0) he19
                         simp only [go_sem, Nat.reduceEqDiff, reduceIte, f0_17] at f0_19
                         have f1_19 := congrArg (fun q => Env.get q 1) he19
                         simp only [go_sem, Nat.reduceEqDiff, reduceIte, f1_17] at f1_19
                         have f6_19 := congrArg (fun q => Env.get q 6) he19
                         simp only [go_sem, Nat.reduceEqDiff, reduceIte] at f6_19
                         clear he19 f0_17 f1_17 f167_17
                         refine W.thenN ?_
                         refine W.ret ?_
                         refine W.thenR ?_
                         rw [doneQ_ret]
                         exact ⟨[.bool true], by simp only [go_sem, ↓forkQ_true, ↓forkQ_false, ↓guardQ_some, ↓resQ_val, ↓resQ_unit, ↓resQ_enter, ↓retQ_some, ↓resFQ_val, ↓resFQ_unit, ↓resFQ_enter, ↓retFQ_some, Nat.reduceEqDiff, reduceIte, Nat.reduceAdd, Nat.reduceMul, Nat.reduceSub, reduceCtorEq, Nat.reduceLeDiff, f0_19, f1_19, f6_19], rfl⟩)
                    · first
                      | (cases hc18; done)
                      | (exfalso; simp only [decide_eq_true_eq, decide_eq_false_iff_not, Bool.not_eq_true', Bool.not_eq_false', Bool.not_eq_eq_eq_not, Bool.not_true, Bool.not_false] at hc18; omega)
                      | (skip
                         try simp only [decide_eq_true_eq, decide_eq_false_iff_not, Bool.not_eq_true', Bool.not_eq_false', Bool.not_eq_eq_eq_not, Bool.not_true, Bool.not_false] at hc18
                         refine W.skip ?_
                         refine W.thenN ?_
                         refine W.seq ?_
                         refine W.region (fun K hK => ?_)
                         have ga7 := (((ga3.grow g4).grow g5).grow g6).grow g7
                         have qe := c23 l a c (gt l k).x k7 ga7 hl
                         rw [at3] at qe
                         dsimp only [srv] at qe
                         obtain ⟨b0, blk, ext, rfl, hb, hcs, hbl⟩ := ga7 (ne_of_lt hk)
                         have irk := inRange_nat hk
                         have cx := gcell0 (ext := ext) hk
                         have cl := gcell1 (ext := ext) hk
                         have ch := gcell2 (ext := ext) hk
                         simp (config := { maxSteps := 10000000 }) only [go_sem, ↓forkQ_true, ↓forkQ_false, ↓guardQ_some, ↓resQ_val, ↓resQ_unit, ↓resQ_enter, ↓retQ_some, ↓resFQ_val, ↓resFQ_unit, ↓resFQ_enter, ↓retFQ_some, Nat.reduceEqDiff, reduceIte, Nat.reduceAdd, Nat.reduceMul, Nat.reduceSub, reduceCtorEq, Nat.reduceLeDiff, f0_17, f1_17, f167_17, t10, t12, t14, t16, t23, t26, t27, c10, hf, q14, hz, h3f, kf1, kf2, q16, hp, xf1, xf2, qa, qb, qc, qd, u17, u18, v15, v14, v12, v11, v9, v8, r1, r2, r3, r4, r5, r6, r7, r8, p1, p2, p3, p4, qe, hb, hcs, irk, cx]
                         refine hK _ _ ?_
                         clear hK K
                         refine W.forget (fun e20 he20 => ?_)
                         refine W.forgetH (fun k12 hk20 => ?_)
                         obtain ⟨g12, u20, u21, nx12, wl12⟩ := two_new hk20 wl7
                         have hb12 := Grow.at g12 hbl hb
                         clear hk20
                         have f0_20 := congrArg (fun q => Env.get q 0) he20
                         simp only [go_sem, Nat.reduceEqDiff, reduceIte, f0_17] at f0_20
                         have f1_20 := congrArg (fun q => Env.get q 1) he20
                         simp only [go_sem, Nat.reduceEqDiff, reduceIte, f1_17] at f1_20
                         have f20_20 := congrArg (fun q => Env.get q 20) he20
                         simp only [go_sem, Nat.reduceEqDiff, reduceIte] at f20_20
                         have f21_20 := congrArg (fun q => Env.get q 21) he20
                         simp only [go_sem, Nat.reduceEqDiff, reduceIte] at f21_20
                         have f22_20 := congrArg (fun q => Env.get q 22) he20
                         simp only [go_sem, Nat.reduceEqDiff, reduceIte] at f22_20
                         clear he20 f0_17 f1_17 f167_17
                         refine W.thenN ?_
                         refine W.seq ?_
                         refine W.drawA dr9_13 (fun A hA K hK => ?_)
                         have gd2 := guardAt hA (j := 2) (d := 181) rfl
                         have gd6 := guardAt hA (j := 6) (d := 185) rfl
                         have gd10 := guardAt hA (j := 10) (d := 189) rfl
                         have gd21 := guardAt hA (j := 21) (d := 200) rfl
                         have gd32 := guardAt hA (j := 32) (d := 211) rfl
                         clear hA
                         simp (config := { maxSteps := 10000000 }) only [go_sem, ↓forkQ_true, ↓forkQ_false, ↓guardQ_some, ↓resQ_val, ↓resQ_unit, ↓resQ_enter, ↓retQ_some, ↓resFQ_val, ↓resFQ_unit, ↓resFQ_enter, ↓retFQ_some, Nat.reduceEqDiff, reduceIte, Nat.reduceAdd, Nat.reduceMul, Nat.reduceSub, reduceCtorEq, Nat.reduceLeDiff, f0_20, f1_20, f20_20, f21_20, f22_20, t10, t12, t14, t16, t23, t26, t27, c10, hf, q14, hz, h3f, kf1, kf2, q16, hp, xf1, xf2, qa, qb, qc, qd, u17, u18, v15, v14, v12, v11, v9, v8, r1, r2, r3, r4, r5, r6, r7, r8, p1, p2, p3, p4, qe, hb, hcs, irk, cx, u20, u21, hb12, cl, ch, s1, s2, p5, p6, cfT_at, gd2, gd6, gd10, gd21, gd32]
                         repeat' (first | (refine W.forkP (fun hc21 => ?_) (fun hc21 => ?_) <;> simp (config := { maxSteps := 10000000 }) only [go_sem, ↓forkQ_true, ↓forkQ_false, ↓guardQ_some, ↓resQ_val, ↓resQ_unit, ↓resQ_enter, ↓retQ_some, ↓resFQ_val, ↓resFQ_unit, ↓resFQ_enter, ↓retFQ_some, Nat.reduceEqDiff, reduceIte, Nat.reduceAdd, Nat.reduceMul, Nat.reduceSub, reduceCtorEq, Nat.reduceLeDiff, f0_20, f1_20, f20_20, f21_20, f22_20, t10, t12, t14, t16, t23, t26, t27, c10, hf, q14, hz, h3f, kf1, kf2, q16, hp, xf1, xf2, qa, qb, qc, qd, u17, u18, v15, v14, v12, v11, v9, v8, r1, r2, r3, r4, r5, r6, r7, r8, p1, p2, p3, p4, qe, hb, hcs, irk, cx, u20, u21, hb12, cl, ch, s1, s2, p5, p6, cfT_at, gd2, gd6, gd10, gd21, gd32, hc21]) | (refine W.fork (fun hc21 => ?_) (fun hc21 => ?_) <;> simp (config := { maxSteps := 10000000 }) only [go_sem, ↓forkQ_true, ↓forkQ_false, ↓guardQ_some, ↓resQ_val, ↓resQ_unit, ↓resQ_enter, ↓retQ_some, ↓resFQ_val, ↓resFQ_unit, ↓resFQ_enter, ↓retFQ_some, Nat.reduceEqDiff, reduceIte, Nat.reduceAdd, Nat.reduceMul, Nat.reduceSub, reduceCtorEq, Nat.reduceLeDiff, f0_20, f1_20, f20_20, f21_20, f22_20, t10, t12, t14, t16, t23, t26, t27, c10, hf, q14, hz, h3f, kf1, kf2, q16, hp, xf1, xf2, qa, qb, qc, qd, u17, u18, v15, v14, v12, v11, v9, v8, r1, r2, r3, r4, r5, r6, r7, r8, p1, p2, p3, p4, qe, hb, hcs, irk, cx, u20, u21, hb12, cl, ch, s1, s2, p5, p6, cfT_at, gd2, gd6, gd10, gd21, gd32, hc21]))
                         all_goals
                           refine hK _ _ ?_
                           clear hK K A gd2 gd6 gd10 gd21 gd32
                           refine W.forget (fun e21 he21 => ?_)
                           have f6_21 := congrArg (fun q => Env.get q 6) he21
                           simp only [go_sem, Nat.reduceEqDiff, reduceIte] at f6_21
                           clear he21 f0_20 f1_20 f20_20 f21_20 f22_20
                           refine W.thenN ?_
                           refine W.ret ?_
                           rw [doneQ_ret]
                           exact ⟨[.bool true], by simp only [go_sem, ↓forkQ_true, ↓forkQ_false, ↓guardQ_some, ↓resQ_val, ↓resQ_unit, ↓resQ_enter, ↓retQ_some, ↓resFQ_val, ↓resFQ_unit, ↓resFQ_enter, ↓retFQ_some, Nat.reduceEqDiff, reduceIte, Nat.reduceAdd, Nat.reduceMul, Nat.reduceSub, reduceCtorEq, Nat.reduceLeDiff, f6_21], rfl⟩)))
end Go.Proofs.Ytlblocieleildaa
