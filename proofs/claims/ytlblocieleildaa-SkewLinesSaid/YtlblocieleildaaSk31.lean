/- What the reference's greatest gives. -/
import Derived.Test.YtlblocieleildaaSk30
set_option linter.unusedSimpArgs false
set_option linter.unusedVariables false
set_option maxRecDepth 20000
set_option maxHeartbeats 8000000
namespace Go.Proofs.Ytlblocieleildaa
open Go.Am

def vIn (l : List Gt) (x : Int) (i n : Nat) : List (Int × Int) := (List.range n).flatMap fun j => (bP l x i j).toList
def vOut (l : List Gt) (x : Int) (i : Nat) : List (Int × Int) := (List.range i).flatMap fun i => vIn l x i l.length
theorem vIn_step (l : List Gt) (x : Int) (i j : Nat) : vIn l x i (j + 1) = vIn l x i j ++ (bP l x i j).toList := by
  unfold vIn; rw [List.range_succ, List.flatMap_append]; simp
theorem vOut_step (l : List Gt) (x : Int) (i : Nat) : vOut l x (i + 1) = vOut l x i ++ vIn l x i l.length := by
  unfold vOut; rw [List.range_succ, List.flatMap_append]; simp
def bdV : Bd := ⟨true, 4611686018427387904, 1⟩
def gV (ps : List (Int × Int)) : Bd := ps.foldl (fun b p => atMostZ b p.1 p.2) bdV
theorem gV_one (ps : List (Int × Int)) (p : Int × Int) : gV (ps ++ [p]) = atMostZ (gV ps) p.1 p.2 := by unfold gV; rw [List.foldl_append]; rfl
theorem bP_pos {l : List Gt} {x : Int} {i j : Nat} {p : Int × Int} (h : bP l x i j = some p) : 0 < p.2 := by
  unfold bP at h
  split at h
  · cases h; dsimp only; omega
  · split at h
    · cases h; dsimp only; omega
    · split at h
      · cases h; dsimp only; omega
      · split at h
        · cases h; dsimp only; omega
        · cases h
structure Gw (h h1 : Heap) (b : Bd) : Prop where
  ex : Ext h h1
  nx : h.next + 1 + 1 ≤ h1.next
  z4 : h1.get h.next = some ⟨[.int .i64 0, .int .i64 0], true, false, none⟩
  g : h1.get (h.next + 1) = some ⟨[.int .i64 b.n, .int .i64 b.d], true, false, none⟩
  s : b.s = true
  d : b.d ≠ 0
theorem Gw.grow {h h1 h2 : Heap} {b : Bd} (t : Gw h h1 b) (ex : Ext h h2) (hn : h1.next ≤ h2.next) (hg : ∀ b, b < h1.next → h2.get b = h1.get b) : Gw h h2 b :=
  have := t.nx
  ⟨ex, Nat.le_trans t.nx hn, (hg _ (by omega)).trans t.z4, (hg _ (by omega)).trans t.g, t.s, t.d⟩
theorem Gw.most {h h1 : Heap} {b : Bd} {n d : Int} (t : Gw h h1 b) (hd : 0 < d) (hl : lessZ (quoN n d) (quoD n d) b.n b.d = true) : Gw h (h1.set (h.next + 1) ⟨[.int .i64 (quoN n d), .int .i64 (quoD n d)], true, false, none⟩) (atMostZ b n d) := by
  have := t.nx
  have e : atMostZ b n d = ⟨true, quoN n d, quoD n d⟩ := by unfold atMostZ; rw [if_pos (.inr hl)]
  rw [e]
  exact ⟨t.ex.set (by omega) _, t.nx, (Heap.get_set_ne _ _ (by omega)).trans t.z4, Heap.get_set_same _ _ _, rfl, quoD_ne hd⟩
theorem Gw.most' {h h1 : Heap} {b : Bd} {n d : Int} (t : Gw h h1 b) (hl : lessZ (quoN n d) (quoD n d) b.n b.d = false) : Gw h h1 (atMostZ b n d) := by
  have e : atMostZ b n d = b := by unfold atMostZ; rw [if_neg (by rw [t.s, hl]; simp)]
  rw [e]; exact t
structure I40 (l : List Gt) (a : Option Addr) (c : Nat) (x : Int) (h : Heap) (i : Nat) (e : Env) (h1 : Heap) : Prop where
  t : Gw h h1 (gV (vOut l x i))
  e0 : e.get 0 = .slice a l.length c
  e1 : e.get 1 = .int .i64 x
  e4 : e.get 4 = .pointer (some ⟨h.next, 0, none⟩)
  e5 : e.get 5 = .pointer (some ⟨h.next + 1, 0, none⟩)
  e6 : e.get 6 = .int .i64 (i : Int)
  le : i ≤ l.length
structure J40 (l : List Gt) (a : Option Addr) (c : Nat) (x : Int) (h : Heap) (i : Nat) (j : Nat) (e : Env) (h1 : Heap) : Prop where
  t : Gw h h1 (gV (vOut l x i ++ vIn l x i j))
  e0 : e.get 0 = .slice a l.length c
  e1 : e.get 1 = .int .i64 x
  e4 : e.get 4 = .pointer (some ⟨h.next, 0, none⟩)
  e5 : e.get 5 = .pointer (some ⟨h.next + 1, 0, none⟩)
  e6 : e.get 6 = .int .i64 (i : Int)
  e7 : e.get 7 = .int .i64 (j : Int)
  le : j ≤ l.length
theorem c40 (l : List Gt) (a : Option Addr) (c : Nat) (x : Int) (h : Heap) (hg : GA h l a) (o : Ok l) (hl : l.length ≤ 24) (hx : 0 ≤ x ∧ x ≤ 1073741824) :
    callW Try.prog SkH 40 [.slice a l.length c, .int .i64 x] h = some (.agg #[.int .i64 (gV (vOut l x l.length)).n, .int .i64 (gV (vOut l x l.length)).d], h, true) := by
  refine call_flat (rs := [.cell 4 26]) [_] Try.func40 rfl rfl ?_ ?_
  rotate_left
  · skip
    refine W.forget (fun e1 he1 => ?_)
    have f0_1 := congrArg (fun q => Env.get q 0) he1
    simp only [ofList_cons, ofList_nil, go_sem, Nat.reduceEqDiff, reduceIte] at f0_1
    have f1_1 := congrArg (fun q => Env.get q 1) he1
    simp only [ofList_cons, ofList_nil, go_sem, Nat.reduceEqDiff, reduceIte] at f1_1
    clear he1
    refine W.seq ?_
    refine W.region (fun K hK => ?_)
    simp (config := { maxSteps := 10000000 }) only [go_sem, ↓forkQ_true, ↓forkQ_false, ↓guardQ_some, ↓resQ_val, ↓resQ_unit, ↓resQ_enter, ↓retQ_some, ↓resFQ_val, ↓resFQ_unit, ↓resFQ_enter, ↓retFQ_some, Nat.reduceEqDiff, reduceIte, Nat.reduceAdd, Nat.reduceMul, Nat.reduceSub, reduceCtorEq, Nat.reduceLeDiff, f0_1, f1_1]
    refine hK _ _ ?_
    clear hK K
    refine W.forget (fun e2 he2 => ?_)
    have f0_2 := congrArg (fun q => Env.get q 0) he2
    simp only [go_sem, Nat.reduceEqDiff, reduceIte, f0_1] at f0_2
    have f1_2 := congrArg (fun q => Env.get q 1) he2
    simp only [go_sem, Nat.reduceEqDiff, reduceIte, f1_1] at f1_2
    have f4_2 := congrArg (fun q => Env.get q 4) he2
    simp only [go_sem, Nat.reduceEqDiff, reduceIte] at f4_2
    clear he2 f0_1 f1_1
    refine W.thenN ?_
    refine W.seq ?_
    refine W.region (fun K hK => ?_)
    simp (config := { maxSteps := 10000000 }) only [go_sem, ↓forkQ_true, ↓forkQ_false, ↓guardQ_some, ↓resQ_val, ↓resQ_unit, ↓resQ_enter, ↓retQ_some, ↓resFQ_val, ↓resFQ_unit, ↓resFQ_enter, ↓retFQ_some, Nat.reduceEqDiff, reduceIte, Nat.reduceAdd, Nat.reduceMul, Nat.reduceSub, reduceCtorEq, Nat.reduceLeDiff, f0_2, f1_2, f4_2]
    refine hK _ _ ?_
    clear hK K
    refine W.forget (fun e3 he3 => ?_)
    have f0_3 := congrArg (fun q => Env.get q 0) he3
    simp only [go_sem, Nat.reduceEqDiff, reduceIte, f0_2] at f0_3
    have f1_3 := congrArg (fun q => Env.get q 1) he3
    simp only [go_sem, Nat.reduceEqDiff, reduceIte, f1_2] at f1_3
    have f4_3 := congrArg (fun q => Env.get q 4) he3
    simp only [go_sem, Nat.reduceEqDiff, reduceIte, f4_2] at f4_3
    have f5_3 := congrArg (fun q => Env.get q 5) he3
    simp only [go_sem, Nat.reduceEqDiff, reduceIte] at f5_3
    clear he3 f0_2 f1_2 f4_2
    refine W.thenN ?_
    refine W.seq ?_
    refine W.seq ?_
    refine W.region (fun K hK => ?_)
    simp (config := { maxSteps := 10000000 }) only [go_sem, ↓forkQ_true, ↓forkQ_false, ↓guardQ_some, ↓resQ_val, ↓resQ_unit, ↓resQ_enter, ↓retQ_some, ↓resFQ_val, ↓resFQ_unit, ↓resFQ_enter, ↓retFQ_some, Nat.reduceEqDiff, reduceIte, Nat.reduceAdd, Nat.reduceMul, Nat.reduceSub, reduceCtorEq, Nat.reduceLeDiff, f0_3, f1_3, f4_3, f5_3]
    refine hK _ _ ?_
    clear hK K
    refine W.forget (fun e4 he4 => ?_)
    have f0_4 := congrArg (fun q => Env.get q 0) he4
    simp only [go_sem, Nat.reduceEqDiff, reduceIte, f0_3] at f0_4
    have f1_4 := congrArg (fun q => Env.get q 1) he4
    simp only [go_sem, Nat.reduceEqDiff, reduceIte, f1_3] at f1_4
    have f4_4 := congrArg (fun q => Env.get q 4) he4
    simp only [go_sem, Nat.reduceEqDiff, reduceIte, f4_3] at f4_4
    have f5_4 := congrArg (fun q => Env.get q 5) he4
    simp only [go_sem, Nat.reduceEqDiff, reduceIte, f5_3] at f5_4
    have f6_4 := congrArg (fun q => Env.get q 6) he4
    simp only [go_sem, Nat.reduceEqDiff, reduceIte] at f6_4
    clear he4 f0_3 f1_3 f4_3 f5_3
    refine W.thenN ?_
    refine W.block ?_
    refine wq_rounds (fun i => l.length - i) (I40 l a c x h) ?_ 0 _ _ ?_
    · intro i e5 k1 hi
      have f0_5 := hi.e0
      have f1_5 := hi.e1
      have f4_5 := hi.e4
      have f5_5 := hi.e5
      have f6_5 := hi.e6
      have ex := hi.t.ex
      have hle := hi.le
      have hadd : wrapF .i64 ((i : Int) + 1) = ((i + 1 : Nat) : Int) := by rw [w64_in _ (by omega)]; omega
      refine W.seq ?_
      refine W.seq ?_
      refine W.region (fun K hK => ?_)
      simp (config := { maxSteps := 10000000 }) only [go_sem, ↓forkQ_true, ↓forkQ_false, ↓guardQ_some, ↓resQ_val, ↓resQ_unit, ↓resQ_enter, ↓retQ_some, ↓resFQ_val, ↓resFQ_unit, ↓resFQ_enter, ↓retFQ_some, Nat.reduceEqDiff, reduceIte, Nat.reduceAdd, Nat.reduceMul, Nat.reduceSub, reduceCtorEq, Nat.reduceLeDiff, f0_5, f1_5, f4_5, f5_5, f6_5, hadd]
      refine hK _ _ ?_
      clear hK K
      refine W.forget (fun e6 he6 => ?_)
      have f0_6 := congrArg (fun q => Env.get q 0) he6
      simp only [go_sem, Nat.reduceEqDiff, reduceIte, f0_5] at f0_6
      have f1_6 := congrArg (fun q => Env.get q 1) he6
      simp only [go_sem, Nat.reduceEqDiff, reduceIte, f1_5] at f1_6
      have f4_6 := congrArg (fun q => Env.get q 4) he6
      simp only [go_sem, Nat.reduceEqDiff, reduceIte, f4_5] at f4_6
      have f5_6 := congrArg (fun q => Env.get q 5) he6
      simp only [go_sem, Nat.reduceEqDiff, reduceIte, f5_5] at f5_6
      have f6_6 := congrArg (fun q => Env.get q 6) he6
      simp only [go_sem, Nat.reduceEqDiff, reduceIte, f6_5] at f6_6
      have f14_6 := congrArg (fun q => Env.get q 14) he6
      simp only [go_sem, Nat.reduceEqDiff, reduceIte] at f14_6
      clear he6 f0_5 f1_5 f4_5 f5_5 f6_5
      refine W.thenN ?_
      refine W.cond f14_6 (fun hc7 => ?_) (fun hc7 => ?_)
      · first
        | (cases hc7; done)
        | (exfalso; simp only [decide_eq_true_eq, decide_eq_false_iff_not, Bool.not_eq_true', Bool.not_eq_false', Bool.not_eq_eq_eq_not, Bool.not_true, Bool.not_false] at hc7; omega)
        | (skip
           try simp only [decide_eq_true_eq, decide_eq_false_iff_not, Bool.not_eq_true', Bool.not_eq_false', Bool.not_eq_eq_eq_not, Bool.not_true, Bool.not_false] at hc7
           refine W.skip ?_
           refine W.thenN ?_
           refine W.seq ?_
           refine W.block ?_
           refine W.seq ?_
           refine W.region (fun K hK => ?_)
           simp (config := { maxSteps := 10000000 }) only [go_sem, ↓forkQ_true, ↓forkQ_false, ↓guardQ_some, ↓resQ_val, ↓resQ_unit, ↓resQ_enter, ↓retQ_some, ↓resFQ_val, ↓resFQ_unit, ↓resFQ_enter, ↓retFQ_some, Nat.reduceEqDiff, reduceIte, Nat.reduceAdd, Nat.reduceMul, Nat.reduceSub, reduceCtorEq, Nat.reduceLeDiff, f0_6, f1_6, f4_6, f5_6, f6_6, f14_6, hadd]
           refine hK _ _ ?_
           clear hK K
           refine W.forget (fun e8 he8 => ?_)
           have f0_8 := congrArg (fun q => Env.get q 0) he8
           simp only [go_sem, Nat.reduceEqDiff, reduceIte, f0_6] at f0_8
           have f1_8 := congrArg (fun q => Env.get q 1) he8
           simp only [go_sem, Nat.reduceEqDiff, reduceIte, f1_6] at f1_8
           have f4_8 := congrArg (fun q => Env.get q 4) he8
           simp only [go_sem, Nat.reduceEqDiff, reduceIte, f4_6] at f4_8
           have f5_8 := congrArg (fun q => Env.get q 5) he8
           simp only [go_sem, Nat.reduceEqDiff, reduceIte, f5_6] at f5_8
           have f6_8 := congrArg (fun q => Env.get q 6) he8
           simp only [go_sem, Nat.reduceEqDiff, reduceIte, f6_6] at f6_8
           have f7_8 := congrArg (fun q => Env.get q 7) he8
           simp only [go_sem, Nat.reduceEqDiff, reduceIte] at f7_8
           clear he8 f0_6 f1_6 f4_6 f5_6 f6_6 f14_6
           refine W.thenN ?_
           refine W.block ?_
           refine wq_rounds (fun j => l.length - j) (J40 l a c x h i) ?_ 0 _ _ ?_
           · intro j e9 k2 hj
             have f0_9 := hj.e0
             have f1_9 := hj.e1
             have f4_9 := hj.e4
             have f5_9 := hj.e5
             have f6_9 := hj.e6
             have f7_9 := hj.e7
             have exj := hj.t.ex
             have hlej := hj.le
             have haddj : wrapF .i64 ((j : Int) + 1) = ((j + 1 : Nat) : Int) := by rw [w64_in _ (by omega)]; omega
             refine W.seq ?_
             refine W.seq ?_
             refine W.region (fun K hK => ?_)
             simp (config := { maxSteps := 10000000 }) only [go_sem, ↓forkQ_true, ↓forkQ_false, ↓guardQ_some, ↓resQ_val, ↓resQ_unit, ↓resQ_enter, ↓retQ_some, ↓resFQ_val, ↓resFQ_unit, ↓resFQ_enter, ↓retFQ_some, Nat.reduceEqDiff, reduceIte, Nat.reduceAdd, Nat.reduceMul, Nat.reduceSub, reduceCtorEq, Nat.reduceLeDiff, f0_9, f1_9, f4_9, f5_9, f6_9, f7_9, hadd, haddj]
             refine hK _ _ ?_
             clear hK K
             refine W.forget (fun e10 he10 => ?_)
             have f0_10 := congrArg (fun q => Env.get q 0) he10
             simp only [go_sem, Nat.reduceEqDiff, reduceIte, f0_9] at f0_10
             have f1_10 := congrArg (fun q => Env.get q 1) he10
             simp only [go_sem, Nat.reduceEqDiff, reduceIte, f1_9] at f1_10
             have f4_10 := congrArg (fun q => Env.get q 4) he10
             simp only [go_sem, Nat.reduceEqDiff, reduceIte, f4_9] at f4_10
             have f5_10 := congrArg (fun q => Env.get q 5) he10
             simp only [go_sem, Nat.reduceEqDiff, reduceIte, f5_9] at f5_10
             have f6_10 := congrArg (fun q => Env.get q 6) he10
             simp only [go_sem, Nat.reduceEqDiff, reduceIte, f6_9] at f6_10
             have f7_10 := congrArg (fun q => Env.get q 7) he10
             simp only [go_sem, Nat.reduceEqDiff, reduceIte, f7_9] at f7_10
             have f20_10 := congrArg (fun q => Env.get q 20) he10
             simp only [go_sem, Nat.reduceEqDiff, reduceIte] at f20_10
             clear he10 f0_9 f1_9 f4_9 f5_9 f6_9 f7_9
             refine W.thenN ?_
             refine W.cond f20_10 (fun hc11 => ?_) (fun hc11 => ?_)
             · first
               | (cases hc11; done)
               | (exfalso; simp only [decide_eq_true_eq, decide_eq_false_iff_not, Bool.not_eq_true', Bool.not_eq_false', Bool.not_eq_eq_eq_not, Bool.not_true, Bool.not_false] at hc11; omega)
               | (skip
                  try simp only [decide_eq_true_eq, decide_eq_false_iff_not, Bool.not_eq_true', Bool.not_eq_false', Bool.not_eq_eq_eq_not, Bool.not_true, Bool.not_false] at hc11
                  refine W.skip ?_
                  refine W.thenN ?_
                  refine W.seq ?_
                  refine W.block ?_
                  refine W.seq ?_
                  cases hbp : bP l x i j
                  · skip
                    have hjn : j < l.length := by omega
                    have hin : i < l.length := by omega
                    have iri := inRange_nat hin
                    have irj := inRange_nat hjn
                    obtain ⟨b, blk, ext, rfl, hb, hcs, hbl⟩ := hg (ne_of_lt hin)
                    have hb' := (exj.get b hbl).trans hb
                    have cuti := gcut (ext := ext) hin
                    have cutj := gcut (ext := ext) hjn
                    have q45 := c45 l x i j o hin hjn hx k2
                    rw [hbp] at q45
                    dsimp only [bV, bN, bD, Option.isSome] at q45
                    refine W.draw dr40_8 (fun K hK => ?_)
                    simp (config := { maxSteps := 10000000 }) only [go_sem, ↓forkQ_true, ↓forkQ_false, ↓guardQ_some, ↓resQ_val, ↓resQ_unit, ↓resQ_enter, ↓retQ_some, ↓resFQ_val, ↓resFQ_unit, ↓resFQ_enter, ↓retFQ_some, Nat.reduceEqDiff, reduceIte, Nat.reduceAdd, Nat.reduceMul, Nat.reduceSub, reduceCtorEq, Nat.reduceLeDiff, f0_10, f1_10, f4_10, f5_10, f6_10, f7_10, f20_10, hadd, haddj, iri, irj, hb', hcs, cuti, cutj, q45]
                    refine hK _ _ ?_
                    clear hK K
                    refine W.forget (fun e12 he12 => ?_)
                    refine W.forgetH (fun k8 hk12 => ?_)
                    have t8 := hj.t.grow (h2 := k8) (by rw [hk12]; exact (exj.alloc _).set exj.next _) (by rw [hk12]; exact Nat.le_succ _) (fun q hq => by rw [hk12, Heap.get_set_ne _ _ (by omega), Heap.get_alloc_ne _ _ (by omega)])
                    have g8 := congrArg (fun q => Heap.get q k2.next) hk12
                    simp only [Heap.get_set_same] at g8
                    clear hk12
                    have f0_12 := congrArg (fun q => Env.get q 0) he12
                    simp only [go_sem, Nat.reduceEqDiff, reduceIte, f0_10] at f0_12
                    have f1_12 := congrArg (fun q => Env.get q 1) he12
                    simp only [go_sem, Nat.reduceEqDiff, reduceIte, f1_10] at f1_12
                    have f4_12 := congrArg (fun q => Env.get q 4) he12
                    simp only [go_sem, Nat.reduceEqDiff, reduceIte, f4_10] at f4_12
                    have f5_12 := congrArg (fun q => Env.get q 5) he12
                    simp only [go_sem, Nat.reduceEqDiff, reduceIte, f5_10] at f5_12
                    have f6_12 := congrArg (fun q => Env.get q 6) he12
                    simp only [go_sem, Nat.reduceEqDiff, reduceIte, f6_10] at f6_12
                    have f7_12 := congrArg (fun q => Env.get q 7) he12
                    simp only [go_sem, Nat.reduceEqDiff, reduceIte, f7_10] at f7_12
                    have f8_12 := congrArg (fun q => Env.get q 8) he12
                    simp only [go_sem, Nat.reduceEqDiff, reduceIte] at f8_12
                    have f9_12 := congrArg (fun q => Env.get q 9) he12
                    simp only [go_sem, Nat.reduceEqDiff, reduceIte] at f9_12
                    clear he12 f0_10 f1_10 f4_10 f5_10 f6_10 f7_10 f20_10
                    refine W.thenN ?_
                    refine W.seq ?_
                    refine W.regionA (fun A hA K hK => ?_)
                    have gd1 := guardAt hA (j := 1) (d := 37) rfl
                    clear hA
                    have gg := t8.g
                    have q30 : ∀ p, bP l x i j = some p → ∀ H, callW Try.prog SkH 30 [.agg #[.int .i64 (quoN p.1 p.2), .int .i64 (quoD p.1 p.2)], .agg #[.int .i64 (gV (vOut l x i ++ vIn l x i j)).n, .int .i64 (gV (vOut l x i ++ vIn l x i j)).d]] H = some (.bool (lessZ (quoN p.1 p.2) (quoD p.1 p.2) (gV (vOut l x i ++ vIn l x i j)).n (gV (vOut l x i ++ vIn l x i j)).d), H, true) := fun p hp H => c30 _ _ _ _ (quoD_ne (bP_pos hp)) t8.d H
                    first | have q30 := q30 _ hbp | skip
                    simp (config := { maxSteps := 10000000 }) only [go_sem, ↓forkQ_true, ↓forkQ_false, ↓guardQ_some, ↓resQ_val, ↓resQ_unit, ↓resQ_enter, ↓retQ_some, ↓resFQ_val, ↓resFQ_unit, ↓resFQ_enter, ↓retFQ_some, Nat.reduceEqDiff, reduceIte, Nat.reduceAdd, Nat.reduceMul, Nat.reduceSub, reduceCtorEq, Nat.reduceLeDiff, f0_12, f1_12, f4_12, f5_12, f6_12, f7_12, f8_12, f9_12, hadd, haddj, iri, irj, hb', hcs, cuti, cutj, q45, g8, gg, q30, gd1]
                    repeat' (first | (refine W.forkP (fun hc13 => ?_) (fun hc13 => ?_) <;> simp (config := { maxSteps := 10000000 }) only [go_sem, ↓forkQ_true, ↓forkQ_false, ↓guardQ_some, ↓resQ_val, ↓resQ_unit, ↓resQ_enter, ↓retQ_some, ↓resFQ_val, ↓resFQ_unit, ↓resFQ_enter, ↓retFQ_some, Nat.reduceEqDiff, reduceIte, Nat.reduceAdd, Nat.reduceMul, Nat.reduceSub, reduceCtorEq, Nat.reduceLeDiff, f0_12, f1_12, f4_12, f5_12, f6_12, f7_12, f8_12, f9_12, hadd, haddj, iri, irj, hb', hcs, cuti, cutj, q45, g8, gg, q30, gd1, hc13]) | (refine W.fork (fun hc13 => ?_) (fun hc13 => ?_) <;> simp (config := { maxSteps := 10000000 }) only [go_sem, ↓forkQ_true, ↓forkQ_false, ↓guardQ_some, ↓resQ_val, ↓resQ_unit, ↓resQ_enter, ↓retQ_some, ↓resFQ_val, ↓resFQ_unit, ↓resFQ_enter, ↓retFQ_some, Nat.reduceEqDiff, reduceIte, Nat.reduceAdd, Nat.reduceMul, Nat.reduceSub, reduceCtorEq, Nat.reduceLeDiff, f0_12, f1_12, f4_12, f5_12, f6_12, f7_12, f8_12, f9_12, hadd, haddj, iri, irj, hb', hcs, cuti, cutj, q45, g8, gg, q30, gd1, hc13]))
                    all_goals
                      refine hK _ _ ?_
                      clear hK K A gd1
                      refine W.forget (fun e13 he13 => ?_)
                      have f0_13 := congrArg (fun q => Env.get q 0) he13
                      simp only [go_sem, Nat.reduceEqDiff, reduceIte, f0_12] at f0_13
                      have f1_13 := congrArg (fun q => Env.get q 1) he13
                      simp only [go_sem, Nat.reduceEqDiff, reduceIte, f1_12] at f1_13
                      have f4_13 := congrArg (fun q => Env.get q 4) he13
                      simp only [go_sem, Nat.reduceEqDiff, reduceIte, f4_12] at f4_13
                      have f5_13 := congrArg (fun q => Env.get q 5) he13
                      simp only [go_sem, Nat.reduceEqDiff, reduceIte, f5_12] at f5_13
                      have f6_13 := congrArg (fun q => Env.get q 6) he13
                      simp only [go_sem, Nat.reduceEqDiff, reduceIte, f6_12] at f6_13
                      have f7_13 := congrArg (fun q => Env.get q 7) he13
                      simp only [go_sem, Nat.reduceEqDiff, reduceIte, f7_12] at f7_13
                      have f8_13 := congrArg (fun q => Env.get q 8) he13
                      simp only [go_sem, Nat.reduceEqDiff, reduceIte, f8_12] at f8_13
                      have f41_13 := congrArg (fun q => Env.get q 41) he13
                      simp only [go_sem, Nat.reduceEqDiff, reduceIte] at f41_13
                      clear he13 f0_12 f1_12 f4_12 f5_12 f6_12 f7_12 f8_12 f9_12
                      refine W.thenN ?_
                      refine W.cond f41_13 (fun hc14 => ?_) (fun hc14 => ?_)
                      · first
                        | (cases hc14; done)
                        | (exfalso; simp only [decide_eq_true_eq, decide_eq_false_iff_not, Bool.not_eq_true', Bool.not_eq_false', Bool.not_eq_eq_eq_not, Bool.not_true, Bool.not_false] at hc14; omega)
                        | (skip
                           try simp only [decide_eq_true_eq, decide_eq_false_iff_not, Bool.not_eq_true', Bool.not_eq_false', Bool.not_eq_eq_eq_not, Bool.not_true, Bool.not_false] at hc14
                           refine W.region (fun K hK => ?_)
                           simp (config := { maxSteps := 10000000 }) only [go_sem, ↓forkQ_true, ↓forkQ_false, ↓guardQ_some, ↓resQ_val, ↓resQ_unit, ↓resQ_enter, ↓retQ_some, ↓resFQ_val, ↓resFQ_unit, ↓resFQ_enter, ↓retFQ_some, Nat.reduceEqDiff, reduceIte, Nat.reduceAdd, Nat.reduceMul, Nat.reduceSub, reduceCtorEq, Nat.reduceLeDiff, f0_13, f1_13, f4_13, f5_13, f6_13, f7_13, f8_13, f41_13, hadd, haddj, iri, irj, hb', hcs, cuti, cutj, q45, g8, gg, q30, g8, gg]
                           refine hK _ _ ?_
                           clear hK K
                           refine W.forget (fun e15 he15 => ?_)
                           refine W.forgetH (fun k10 hk15 => ?_)
                           have t10 := t8.most (n := p.1) (d := p.2) (bP_pos hbp) ‹lessZ (quoN p.1 p.2) (quoD p.1 p.2) _ _ = true›
                           rw [← hk15] at t10
                           clear hk15
                           have f0_15 := congrArg (fun q => Env.get q 0) he15
                           simp only [go_sem, Nat.reduceEqDiff, reduceIte, f0_13] at f0_15
                           have f1_15 := congrArg (fun q => Env.get q 1) he15
                           simp only [go_sem, Nat.reduceEqDiff, reduceIte, f1_13] at f1_15
                           have f4_15 := congrArg (fun q => Env.get q 4) he15
                           simp only [go_sem, Nat.reduceEqDiff, reduceIte, f4_13] at f4_15
                           have f5_15 := congrArg (fun q => Env.get q 5) he15
                           simp only [go_sem, Nat.reduceEqDiff, reduceIte, f5_13] at f5_15
                           have f6_15 := congrArg (fun q => Env.get q 6) he15
                           simp only [go_sem, Nat.reduceEqDiff, reduceIte, f6_13] at f6_15
                           have f7_15 := congrArg (fun q => Env.get q 7) he15
                           simp only [go_sem, Nat.reduceEqDiff, reduceIte, f7_13] at f7_15
                           clear he15 f0_13 f1_13 f4_13 f5_13 f6_13 f7_13 f8_13 f41_13
                           refine W.blockN ?_
                           refine W.thenN ?_
                           refine W.region (fun K hK => ?_)
                           simp (config := { maxSteps := 10000000 }) only [go_sem, ↓forkQ_true, ↓forkQ_false, ↓guardQ_some, ↓resQ_val, ↓resQ_unit, ↓resQ_enter, ↓retQ_some, ↓resFQ_val, ↓resFQ_unit, ↓resFQ_enter, ↓retFQ_some, Nat.reduceEqDiff, reduceIte, Nat.reduceAdd, Nat.reduceMul, Nat.reduceSub, reduceCtorEq, Nat.reduceLeDiff, f0_15, f1_15, f4_15, f5_15, f6_15, f7_15, hadd, haddj, iri, irj, hb', hcs, cuti, cutj, q45, g8, gg, q30, g8, gg]
                           refine hK _ _ ?_
                           clear hK K
                           refine W.forget (fun e16 he16 => ?_)
                           have f0_16 := congrArg (fun q => Env.get q 0) he16
                           simp only [go_sem, Nat.reduceEqDiff, reduceIte, f0_15] at f0_16
                           have f1_16 := congrArg (fun q => Env.get q 1) he16
                           simp only [go_sem, Nat.reduceEqDiff, reduceIte, f1_15] at f1_16
                           have f4_16 := congrArg (fun q => Env.get q 4) he16
                           simp only [go_sem, Nat.reduceEqDiff, reduceIte, f4_15] at f4_16
                           have f5_16 := congrArg (fun q => Env.get q 5) he16
                           simp only [go_sem, Nat.reduceEqDiff, reduceIte, f5_15] at f5_16
                           have f6_16 := congrArg (fun q => Env.get q 6) he16
                           simp only [go_sem, Nat.reduceEqDiff, reduceIte, f6_15] at f6_16
                           have f7_16 := congrArg (fun q => Env.get q 7) he16
                           simp only [go_sem, Nat.reduceEqDiff, reduceIte, f7_15] at f7_16
                           clear he16 f0_15 f1_15 f4_15 f5_15 f6_15 f7_15
                           refine W.thenN ?_
                           have vs := vIn_step l x i j
                           rw [hbp] at vs
                           first
                             | exact ⟨j + 1, by dsimp only; omega, by rw [vs, Option.toList_some, ← List.append_assoc, gV_one]; exact t10, f0_16, f1_16, f4_16, f5_16, f6_16, f7_16, by omega⟩
                             | exact ⟨j + 1, by dsimp only; omega, by rw [vs, Option.toList_some, ← List.append_assoc, gV_one]; exact t8.most' ‹lessZ _ _ _ _ = false›, f0_16, f1_16, f4_16, f5_16, f6_16, f7_16, by omega⟩
                             | exact ⟨j + 1, by dsimp only; omega, by rw [vs, Option.toList_none, List.append_nil]; exact t8, f0_16, f1_16, f4_16, f5_16, f6_16, f7_16, by omega⟩)
                      · first
                        | (cases hc14; done)
                        | (exfalso; simp only [decide_eq_true_eq, decide_eq_false_iff_not, Bool.not_eq_true', Bool.not_eq_false', Bool.not_eq_eq_eq_not, Bool.not_true, Bool.not_false] at hc14; omega)
                        | (skip
                           try simp only [decide_eq_true_eq, decide_eq_false_iff_not, Bool.not_eq_true', Bool.not_eq_false', Bool.not_eq_eq_eq_not, Bool.not_true, Bool.not_false] at hc14
                           refine W.skip ?_
                           refine W.blockN ?_
                           refine W.thenN ?_
                           refine W.region (fun K hK => ?_)
                           simp (config := { maxSteps := 10000000 }) only [go_sem, ↓forkQ_true, ↓forkQ_false, ↓guardQ_some, ↓resQ_val, ↓resQ_unit, ↓resQ_enter, ↓retQ_some, ↓resFQ_val, ↓resFQ_unit, ↓resFQ_enter, ↓retFQ_some, Nat.reduceEqDiff, reduceIte, Nat.reduceAdd, Nat.reduceMul, Nat.reduceSub, reduceCtorEq, Nat.reduceLeDiff, f0_13, f1_13, f4_13, f5_13, f6_13, f7_13, f8_13, f41_13, hadd, haddj, iri, irj, hb', hcs, cuti, cutj, q45, g8, gg, q30]
                           refine hK _ _ ?_
                           clear hK K
                           refine W.forget (fun e17 he17 => ?_)
                           have f0_17 := congrArg (fun q => Env.get q 0) he17
                           simp only [go_sem, Nat.reduceEqDiff, reduceIte, f0_13] at f0_17
                           have f1_17 := congrArg (fun q => Env.get q 1) he17
                           simp only [go_sem, Nat.reduceEqDiff, reduceIte, f1_13] at f1_17
                           have f4_17 := congrArg (fun q => Env.get q 4) he17
                           simp only [go_sem, Nat.reduceEqDiff, reduceIte, f4_13] at f4_17
                           have f5_17 := congrArg (fun q => Env.get q 5) he17
                           simp only [go_sem, Nat.reduceEqDiff, reduceIte, f5_13] at f5_17
                           have f6_17 := congrArg (fun q => Env.get q 6) he17
                           simp only [go_sem, Nat.reduceEqDiff, reduceIte, f6_13] at f6_17
                           have f7_17 := congrArg (fun q => Env.get q 7) he17
                           simp only [go_sem, Nat.reduceEqDiff, reduceIte, f7_13] at f7_17
                           clear he17 f0_13 f1_13 f4_13 f5_13 f6_13 f7_13 f8_13 f41_13
                           refine W.thenN ?_
                           have vs := vIn_step l x i j
                           rw [hbp] at vs
                           first
                             | exact ⟨j + 1, by dsimp only; omega, by rw [vs, Option.toList_some, ← List.append_assoc, gV_one]; exact t10, f0_17, f1_17, f4_17, f5_17, f6_17, f7_17, by omega⟩
                             | exact ⟨j + 1, by dsimp only; omega, by rw [vs, Option.toList_some, ← List.append_assoc, gV_one]; exact t8.most' ‹lessZ _ _ _ _ = false›, f0_17, f1_17, f4_17, f5_17, f6_17, f7_17, by omega⟩
                             | exact ⟨j + 1, by dsimp only; omega, by rw [vs, Option.toList_none, List.append_nil]; exact t8, f0_17, f1_17, f4_17, f5_17, f6_17, f7_17, by omega⟩)
                  · skip
                    rename_i p
                    have hjn : j < l.length := by omega
                    have hin : i < l.length := by omega
                    have iri := inRange_nat hin
                    have irj := inRange_nat hjn
                    obtain ⟨b, blk, ext, rfl, hb, hcs, hbl⟩ := hg (ne_of_lt hin)
                    have hb' := (exj.get b hbl).trans hb
                    have cuti := gcut (ext := ext) hin
                    have cutj := gcut (ext := ext) hjn
                    have q45 := c45 l x i j o hin hjn hx k2
                    rw [hbp] at q45
                    dsimp only [bV, bN, bD, Option.isSome] at q45
                    refine W.draw dr40_8 (fun K hK => ?_)
                    simp (config := { maxSteps := 10000000 }) only [go_sem, ↓forkQ_true, ↓forkQ_false, ↓guardQ_some, ↓resQ_val, ↓resQ_unit, ↓resQ_enter, ↓retQ_some, ↓resFQ_val, ↓resFQ_unit, ↓resFQ_enter, ↓retFQ_some, Nat.reduceEqDiff, reduceIte, Nat.reduceAdd, Nat.reduceMul, Nat.reduceSub, reduceCtorEq, Nat.reduceLeDiff, f0_10, f1_10, f4_10, f5_10, f6_10, f7_10, f20_10, hadd, haddj, iri, irj, hb', hcs, cuti, cutj, q45]
                    refine hK _ _ ?_
                    clear hK K
                    refine W.forget (fun e18 he18 => ?_)
                    refine W.forgetH (fun k8 hk18 => ?_)
                    have t8 := hj.t.grow (h2 := k8) (by rw [hk18]; exact (exj.alloc _).set exj.next _) (by rw [hk18]; exact Nat.le_succ _) (fun q hq => by rw [hk18, Heap.get_set_ne _ _ (by omega), Heap.get_alloc_ne _ _ (by omega)])
                    have g8 := congrArg (fun q => Heap.get q k2.next) hk18
                    simp only [Heap.get_set_same] at g8
                    clear hk18
                    have f0_18 := congrArg (fun q => Env.get q 0) he18
                    simp only [go_sem, Nat.reduceEqDiff, reduceIte, f0_10] at f0_18
                    have f1_18 := congrArg (fun q => Env.get q 1) he18
                    simp only [go_sem, Nat.reduceEqDiff, reduceIte, f1_10] at f1_18
                    have f4_18 := congrArg (fun q => Env.get q 4) he18
                    simp only [go_sem, Nat.reduceEqDiff, reduceIte, f4_10] at f4_18
                    have f5_18 := congrArg (fun q => Env.get q 5) he18
                    simp only [go_sem, Nat.reduceEqDiff, reduceIte, f5_10] at f5_18
                    have f6_18 := congrArg (fun q => Env.get q 6) he18
                    simp only [go_sem, Nat.reduceEqDiff, reduceIte, f6_10] at f6_18
                    have f7_18 := congrArg (fun q => Env.get q 7) he18
                    simp only [go_sem, Nat.reduceEqDiff, reduceIte, f7_10] at f7_18
                    have f8_18 := congrArg (fun q => Env.get q 8) he18
                    simp only [go_sem, Nat.reduceEqDiff, reduceIte] at f8_18
                    have f9_18 := congrArg (fun q => Env.get q 9) he18
                    simp only [go_sem, Nat.reduceEqDiff, reduceIte] at f9_18
                    clear he18 f0_10 f1_10 f4_10 f5_10 f6_10 f7_10 f20_10
                    refine W.thenN ?_
                    refine W.seq ?_
                    refine W.regionA (fun A hA K hK => ?_)
                    have gd1 := guardAt hA (j := 1) (d := 37) rfl
                    clear hA
                    have gg := t8.g
                    have q30 : ∀ p, bP l x i j = some p → ∀ H, callW Try.prog SkH 30 [.agg #[.int .i64 (quoN p.1 p.2), .int .i64 (quoD p.1 p.2)], .agg #[.int .i64 (gV (vOut l x i ++ vIn l x i j)).n, .int .i64 (gV (vOut l x i ++ vIn l x i j)).d]] H = some (.bool (lessZ (quoN p.1 p.2) (quoD p.1 p.2) (gV (vOut l x i ++ vIn l x i j)).n (gV (vOut l x i ++ vIn l x i j)).d), H, true) := fun p hp H => c30 _ _ _ _ (quoD_ne (bP_pos hp)) t8.d H
                    first | have q30 := q30 _ hbp | skip
                    simp (config := { maxSteps := 10000000 }) only [go_sem, ↓forkQ_true, ↓forkQ_false, ↓guardQ_some, ↓resQ_val, ↓resQ_unit, ↓resQ_enter, ↓retQ_some, ↓resFQ_val, ↓resFQ_unit, ↓resFQ_enter, ↓retFQ_some, Nat.reduceEqDiff, reduceIte, Nat.reduceAdd, Nat.reduceMul, Nat.reduceSub, reduceCtorEq, Nat.reduceLeDiff, f0_18, f1_18, f4_18, f5_18, f6_18, f7_18, f8_18, f9_18, hadd, haddj, iri, irj, hb', hcs, cuti, cutj, q45, g8, gg, q30, gd1]
                    repeat' (first | (refine W.forkP (fun hc19 => ?_) (fun hc19 => ?_) <;> simp (config := { maxSteps := 10000000 }) only [go_sem, ↓forkQ_true, ↓forkQ_false, ↓guardQ_some, ↓resQ_val, ↓resQ_unit, ↓resQ_enter, ↓retQ_some, ↓resFQ_val, ↓resFQ_unit, ↓resFQ_enter, ↓retFQ_some, Nat.reduceEqDiff, reduceIte, Nat.reduceAdd, Nat.reduceMul, Nat.reduceSub, reduceCtorEq, Nat.reduceLeDiff, f0_18, f1_18, f4_18, f5_18, f6_18, f7_18, f8_18, f9_18, hadd, haddj, iri, irj, hb', hcs, cuti, cutj, q45, g8, gg, q30, gd1, hc19]) | (refine W.fork (fun hc19 => ?_) (fun hc19 => ?_) <;> simp (config := { maxSteps := 10000000 }) only [go_sem, ↓forkQ_true, ↓forkQ_false, ↓guardQ_some, ↓resQ_val, ↓resQ_unit, ↓resQ_enter, ↓retQ_some, ↓resFQ_val, ↓resFQ_unit, ↓resFQ_enter, ↓retFQ_some, Nat.reduceEqDiff, reduceIte, Nat.reduceAdd, Nat.reduceMul, Nat.reduceSub, reduceCtorEq, Nat.reduceLeDiff, f0_18, f1_18, f4_18, f5_18, f6_18, f7_18, f8_18, f9_18, hadd, haddj, iri, irj, hb', hcs, cuti, cutj, q45, g8, gg, q30, gd1, hc19]))
                    all_goals
                      refine hK _ _ ?_
                      clear hK K A gd1
                      refine W.forget (fun e19 he19 => ?_)
                      have f0_19 := congrArg (fun q => Env.get q 0) he19
                      simp only [go_sem, Nat.reduceEqDiff, reduceIte, f0_18] at f0_19
                      have f1_19 := congrArg (fun q => Env.get q 1) he19
                      simp only [go_sem, Nat.reduceEqDiff, reduceIte, f1_18] at f1_19
                      have f4_19 := congrArg (fun q => Env.get q 4) he19
                      simp only [go_sem, Nat.reduceEqDiff, reduceIte, f4_18] at f4_19
                      have f5_19 := congrArg (fun q => Env.get q 5) he19
                      simp only [go_sem, Nat.reduceEqDiff, reduceIte, f5_18] at f5_19
                      have f6_19 := congrArg (fun q => Env.get q 6) he19
                      simp only [go_sem, Nat.reduceEqDiff, reduceIte, f6_18] at f6_19
                      have f7_19 := congrArg (fun q => Env.get q 7) he19
                      simp only [go_sem, Nat.reduceEqDiff, reduceIte, f7_18] at f7_19
                      have f8_19 := congrArg (fun q => Env.get q 8) he19
                      simp only [go_sem, Nat.reduceEqDiff, reduceIte, f8_18] at f8_19
                      have f41_19 := congrArg (fun q => Env.get q 41) he19
                      simp only [go_sem, Nat.reduceEqDiff, reduceIte] at f41_19
                      clear he19 f0_18 f1_18 f4_18 f5_18 f6_18 f7_18 f8_18 f9_18
                      refine W.thenN ?_
                      refine W.cond f41_19 (fun hc20 => ?_) (fun hc20 => ?_)
                      · first
                        | (cases hc20; done)
                        | (exfalso; simp only [decide_eq_true_eq, decide_eq_false_iff_not, Bool.not_eq_true', Bool.not_eq_false', Bool.not_eq_eq_eq_not, Bool.not_true, Bool.not_false] at hc20; omega)
                        | (skip
                           try simp only [decide_eq_true_eq, decide_eq_false_iff_not, Bool.not_eq_true', Bool.not_eq_false', Bool.not_eq_eq_eq_not, Bool.not_true, Bool.not_false] at hc20
                           refine W.region (fun K hK => ?_)
                           simp (config := { maxSteps := 10000000 }) only [go_sem, ↓forkQ_true, ↓forkQ_false, ↓guardQ_some, ↓resQ_val, ↓resQ_unit, ↓resQ_enter, ↓retQ_some, ↓resFQ_val, ↓resFQ_unit, ↓resFQ_enter, ↓retFQ_some, Nat.reduceEqDiff, reduceIte, Nat.reduceAdd, Nat.reduceMul, Nat.reduceSub, reduceCtorEq, Nat.reduceLeDiff, f0_19, f1_19, f4_19, f5_19, f6_19, f7_19, f8_19, f41_19, hadd, haddj, iri, irj, hb', hcs, cuti, cutj, q45, g8, gg, q30, g8, gg]
                           refine hK _ _ ?_
                           clear hK K
                           refine W.forget (fun e21 he21 => ?_)
                           refine W.forgetH (fun k10 hk21 => ?_)
                           have t10 := t8.most (n := p.1) (d := p.2) (bP_pos hbp) ‹lessZ (quoN p.1 p.2) (quoD p.1 p.2) _ _ = true›
                           rw [← hk21] at t10
                           clear hk21
                           have f0_21 := congrArg (fun q => Env.get q 0) he21
                           simp only [go_sem, Nat.reduceEqDiff, reduceIte, f0_19] at f0_21
                           have f1_21 := congrArg (fun q => Env.get q 1) he21
                           simp only [go_sem, Nat.reduceEqDiff, reduceIte, f1_19] at f1_21
                           have f4_21 := congrArg (fun q => Env.get q 4) he21
                           simp only [go_sem, Nat.reduceEqDiff, reduceIte, f4_19] at f4_21
                           have f5_21 := congrArg (fun q => Env.get q 5) he21
                           simp only [go_sem, Nat.reduceEqDiff, reduceIte, f5_19] at f5_21
                           have f6_21 := congrArg (fun q => Env.get q 6) he21
                           simp only [go_sem, Nat.reduceEqDiff, reduceIte, f6_19] at f6_21
                           have f7_21 := congrArg (fun q => Env.get q 7) he21
                           simp only [go_sem, Nat.reduceEqDiff, reduceIte, f7_19] at f7_21
                           clear he21 f0_19 f1_19 f4_19 f5_19 f6_19 f7_19 f8_19 f41_19
                           refine W.blockN ?_
                           refine W.thenN ?_
                           refine W.region (fun K hK => ?_)
                           simp (config := { maxSteps := 10000000 }) only [go_sem, ↓forkQ_true, ↓forkQ_false, ↓guardQ_some, ↓resQ_val, ↓resQ_unit, ↓resQ_enter, ↓retQ_some, ↓resFQ_val, ↓resFQ_unit, ↓resFQ_enter, ↓retFQ_some, Nat.reduceEqDiff, reduceIte, Nat.reduceAdd, Nat.reduceMul, Nat.reduceSub, reduceCtorEq, Nat.reduceLeDiff, f0_21, f1_21, f4_21, f5_21, f6_21, f7_21, hadd, haddj, iri, irj, hb', hcs, cuti, cutj, q45, g8, gg, q30, g8, gg]
                           refine hK _ _ ?_
                           clear hK K
                           refine W.forget (fun e22 he22 => ?_)
                           have f0_22 := congrArg (fun q => Env.get q 0) he22
                           simp only [go_sem, Nat.reduceEqDiff, reduceIte, f0_21] at f0_22
                           have f1_22 := congrArg (fun q => Env.get q 1) he22
                           simp only [go_sem, Nat.reduceEqDiff, reduceIte, f1_21] at f1_22
                           have f4_22 := congrArg (fun q => Env.get q 4) he22
                           simp only [go_sem, Nat.reduceEqDiff, reduceIte, f4_21] at f4_22
                           have f5_22 := congrArg (fun q => Env.get q 5) he22
                           simp only [go_sem, Nat.reduceEqDiff, reduceIte, f5_21] at f5_22
                           have f6_22 := congrArg (fun q => Env.get q 6) he22
                           simp only [go_sem, Nat.reduceEqDiff, reduceIte, f6_21] at f6_22
                           have f7_22 := congrArg (fun q => Env.get q 7) he22
                           simp only [go_sem, Nat.reduceEqDiff, reduceIte, f7_21] at f7_22
                           clear he22 f0_21 f1_21 f4_21 f5_21 f6_21 f7_21
                           refine W.thenN ?_
                           have vs := vIn_step l x i j
                           rw [hbp] at vs
                           first
                             | exact ⟨j + 1, by dsimp only; omega, by rw [vs, Option.toList_some, ← List.append_assoc, gV_one]; exact t10, f0_22, f1_22, f4_22, f5_22, f6_22, f7_22, by omega⟩
                             | exact ⟨j + 1, by dsimp only; omega, by rw [vs, Option.toList_some, ← List.append_assoc, gV_one]; exact t8.most' ‹lessZ _ _ _ _ = false›, f0_22, f1_22, f4_22, f5_22, f6_22, f7_22, by omega⟩
                             | exact ⟨j + 1, by dsimp only; omega, by rw [vs, Option.toList_none, List.append_nil]; exact t8, f0_22, f1_22, f4_22, f5_22, f6_22, f7_22, by omega⟩)
                      · first
                        | (cases hc20; done)
                        | (exfalso; simp only [decide_eq_true_eq, decide_eq_false_iff_not, Bool.not_eq_true', Bool.not_eq_false', Bool.not_eq_eq_eq_not, Bool.not_true, Bool.not_false] at hc20; omega)
                        | (skip
                           try simp only [decide_eq_true_eq, decide_eq_false_iff_not, Bool.not_eq_true', Bool.not_eq_false', Bool.not_eq_eq_eq_not, Bool.not_true, Bool.not_false] at hc20
                           refine W.skip ?_
                           refine W.blockN ?_
                           refine W.thenN ?_
                           refine W.region (fun K hK => ?_)
                           simp (config := { maxSteps := 10000000 }) only [go_sem, ↓forkQ_true, ↓forkQ_false, ↓guardQ_some, ↓resQ_val, ↓resQ_unit, ↓resQ_enter, ↓retQ_some, ↓resFQ_val, ↓resFQ_unit, ↓resFQ_enter, ↓retFQ_some, Nat.reduceEqDiff, reduceIte, Nat.reduceAdd, Nat.reduceMul, Nat.reduceSub, reduceCtorEq, Nat.reduceLeDiff, f0_19, f1_19, f4_19, f5_19, f6_19, f7_19, f8_19, f41_19, hadd, haddj, iri, irj, hb', hcs, cuti, cutj, q45, g8, gg, q30]
                           refine hK _ _ ?_
                           clear hK K
                           refine W.forget (fun e23 he23 => ?_)
                           have f0_23 := congrArg (fun q => Env.get q 0) he23
                           simp only [go_sem, Nat.reduceEqDiff, reduceIte, f0_19] at f0_23
                           have f1_23 := congrArg (fun q => Env.get q 1) he23
                           simp only [go_sem, Nat.reduceEqDiff, reduceIte, f1_19] at f1_23
                           have f4_23 := congrArg (fun q => Env.get q 4) he23
                           simp only [go_sem, Nat.reduceEqDiff, reduceIte, f4_19] at f4_23
                           have f5_23 := congrArg (fun q => Env.get q 5) he23
                           simp only [go_sem, Nat.reduceEqDiff, reduceIte, f5_19] at f5_23
                           have f6_23 := congrArg (fun q => Env.get q 6) he23
                           simp only [go_sem, Nat.reduceEqDiff, reduceIte, f6_19] at f6_23
                           have f7_23 := congrArg (fun q => Env.get q 7) he23
                           simp only [go_sem, Nat.reduceEqDiff, reduceIte, f7_19] at f7_23
                           clear he23 f0_19 f1_19 f4_19 f5_19 f6_19 f7_19 f8_19 f41_19
                           refine W.thenN ?_
                           have vs := vIn_step l x i j
                           rw [hbp] at vs
                           first
                             | exact ⟨j + 1, by dsimp only; omega, by rw [vs, Option.toList_some, ← List.append_assoc, gV_one]; exact t10, f0_23, f1_23, f4_23, f5_23, f6_23, f7_23, by omega⟩
                             | exact ⟨j + 1, by dsimp only; omega, by rw [vs, Option.toList_some, ← List.append_assoc, gV_one]; exact t8.most' ‹lessZ _ _ _ _ = false›, f0_23, f1_23, f4_23, f5_23, f6_23, f7_23, by omega⟩
                             | exact ⟨j + 1, by dsimp only; omega, by rw [vs, Option.toList_none, List.append_nil]; exact t8, f0_23, f1_23, f4_23, f5_23, f6_23, f7_23, by omega⟩))
             · first
               | (cases hc11; done)
               | (exfalso; simp only [decide_eq_true_eq, decide_eq_false_iff_not, Bool.not_eq_true', Bool.not_eq_false', Bool.not_eq_eq_eq_not, Bool.not_true, Bool.not_false] at hc11; omega)
               | (skip
                  try simp only [decide_eq_true_eq, decide_eq_false_iff_not, Bool.not_eq_true', Bool.not_eq_false', Bool.not_eq_eq_eq_not, Bool.not_true, Bool.not_false] at hc11
                  refine W.exit ?_
                  refine W.thenE ?_
                  refine W.thenE ?_
                  refine W.blockE ?_
                  refine W.blockN ?_
                  refine W.thenN ?_
                  refine W.region (fun K hK => ?_)
                  simp (config := { maxSteps := 10000000 }) only [go_sem, ↓forkQ_true, ↓forkQ_false, ↓guardQ_some, ↓resQ_val, ↓resQ_unit, ↓resQ_enter, ↓retQ_some, ↓resFQ_val, ↓resFQ_unit, ↓resFQ_enter, ↓retFQ_some, Nat.reduceEqDiff, reduceIte, Nat.reduceAdd, Nat.reduceMul, Nat.reduceSub, reduceCtorEq, Nat.reduceLeDiff, f0_10, f1_10, f4_10, f5_10, f6_10, f7_10, f20_10, hadd]
                  refine hK _ _ ?_
                  clear hK K
                  refine W.forget (fun e24 he24 => ?_)
                  have f0_24 := congrArg (fun q => Env.get q 0) he24
                  simp only [go_sem, Nat.reduceEqDiff, reduceIte, f0_10] at f0_24
                  have f1_24 := congrArg (fun q => Env.get q 1) he24
                  simp only [go_sem, Nat.reduceEqDiff, reduceIte, f1_10] at f1_24
                  have f4_24 := congrArg (fun q => Env.get q 4) he24
                  simp only [go_sem, Nat.reduceEqDiff, reduceIte, f4_10] at f4_24
                  have f5_24 := congrArg (fun q => Env.get q 5) he24
                  simp only [go_sem, Nat.reduceEqDiff, reduceIte, f5_10] at f5_24
                  have f6_24 := congrArg (fun q => Env.get q 6) he24
                  simp only [go_sem, Nat.reduceEqDiff, reduceIte, f6_10] at f6_24
                  clear he24 f0_10 f1_10 f4_10 f5_10 f6_10 f7_10 f20_10
                  refine W.thenN ?_
                  have tt := hj.t
                  obtain rfl : j = l.length := by omega
                  exact ⟨i + 1, by dsimp only; omega, by rw [vOut_step]; exact tt, f0_24, f1_24, f4_24, f5_24, f6_24, by omega⟩)
           · exact ⟨by show Gw h k1 (gV (vOut l x i ++ [])); rw [List.append_nil]; exact hi.t, f0_8, f1_8, f4_8, f5_8, f6_8, f7_8, Nat.zero_le _⟩)
      · first
        | (cases hc7; done)
        | (exfalso; simp only [decide_eq_true_eq, decide_eq_false_iff_not, Bool.not_eq_true', Bool.not_eq_false', Bool.not_eq_eq_eq_not, Bool.not_true, Bool.not_false] at hc7; omega)
        | (skip
           try simp only [decide_eq_true_eq, decide_eq_false_iff_not, Bool.not_eq_true', Bool.not_eq_false', Bool.not_eq_eq_eq_not, Bool.not_true, Bool.not_false] at hc7
           refine W.exit ?_
           refine W.thenE ?_
           refine W.thenE ?_
           refine W.blockE ?_
           refine W.thenN ?_
           refine W.seq ?_
           refine W.region (fun K hK => ?_)
           obtain rfl : i = l.length := by omega
           have gg := hi.t.g
           have z4 := hi.t.z4
           simp (config := { maxSteps := 10000000 }) only [go_sem, ↓forkQ_true, ↓forkQ_false, ↓guardQ_some, ↓resQ_val, ↓resQ_unit, ↓resQ_enter, ↓retQ_some, ↓resFQ_val, ↓resFQ_unit, ↓resFQ_enter, ↓retFQ_some, Nat.reduceEqDiff, reduceIte, Nat.reduceAdd, Nat.reduceMul, Nat.reduceSub, reduceCtorEq, Nat.reduceLeDiff, f0_6, f1_6, f4_6, f5_6, f6_6, f14_6, gg, z4]
           refine hK _ _ ?_
           clear hK K
           refine W.forget (fun e25 he25 => ?_)
           have f4_25 := congrArg (fun q => Env.get q 4) he25
           simp only [go_sem, Nat.reduceEqDiff, reduceIte, f4_6] at f4_25
           clear he25 f0_6 f1_6 f4_6 f5_6 f6_6 f14_6
           refine W.thenN ?_
           refine W.ret ?_
           rw [flatQ_ret]
           refine ⟨by simp only [go_sem, ↓forkQ_true, ↓forkQ_false, ↓guardQ_some, ↓resQ_val, ↓resQ_unit, ↓resQ_enter, ↓retQ_some, ↓resFQ_val, ↓resFQ_unit, ↓resFQ_enter, ↓retFQ_some, Nat.reduceEqDiff, reduceIte, Nat.reduceAdd, Nat.reduceMul, Nat.reduceSub, reduceCtorEq, Nat.reduceLeDiff, ex.wr], ?_⟩
           simp only [go_sem, ↓forkQ_true, ↓forkQ_false, ↓guardQ_some, ↓resQ_val, ↓resQ_unit, ↓resQ_enter, ↓retQ_some, ↓resFQ_val, ↓resFQ_unit, ↓resFQ_enter, ↓retFQ_some, Nat.reduceEqDiff, reduceIte, Nat.reduceAdd, Nat.reduceMul, Nat.reduceSub, reduceCtorEq, Nat.reduceLeDiff, f4_25, gg, z4])
    · exact ⟨⟨(((Ext.low h).alloc _).alloc _).set (Nat.le_succ _) _, Nat.le_refl _, by simp only [go_sem, ↓forkQ_true, ↓forkQ_false, ↓guardQ_some, ↓resQ_val, ↓resQ_unit, ↓resQ_enter, ↓retQ_some, ↓resFQ_val, ↓resFQ_unit, ↓resFQ_enter, ↓retFQ_some, Nat.reduceEqDiff, reduceIte, Nat.reduceAdd, Nat.reduceMul, Nat.reduceSub, reduceCtorEq, Nat.reduceLeDiff], by simp only [go_sem, ↓forkQ_true, ↓forkQ_false, ↓guardQ_some, ↓resQ_val, ↓resQ_unit, ↓resQ_enter, ↓retQ_some, ↓resFQ_val, ↓resFQ_unit, ↓resFQ_enter, ↓retFQ_some, Nat.reduceEqDiff, reduceIte, Nat.reduceAdd, Nat.reduceMul, Nat.reduceSub, reduceCtorEq, Nat.reduceLeDiff]; rfl, rfl, by show (1 : Int) ≠ 0; decide⟩, f0_4, f1_4, f4_4, f5_4, f6_4, Nat.zero_le _⟩
  · rfl
end Go.Proofs.Ytlblocieleildaa
