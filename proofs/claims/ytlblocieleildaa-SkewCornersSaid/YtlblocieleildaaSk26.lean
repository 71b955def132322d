/- The law of corners, walked. -/
import Derived.Test.YtlblocieleildaaSk7
import Derived.Test.YtlblocieleildaaSk18
import Derived.Test.YtlblocieleildaaSk25
import Derived.Test.YtlblocieleildaaTp2
set_option linter.unusedSimpArgs false
set_option linter.unusedVariables false
set_option maxRecDepth 20000
set_option maxHeartbeats 8000000
namespace Go.Proofs.Ytlblocieleildaa
open Go.Am

open Go.Plain
theorem Un_mem_lt {l : List Gt} {k : Nat} (hk : k < (Un l).length) : (Un l).getD k 0 < l.length := Un_lt _ (getD_mem hk)
theorem Ln_mem_lt {l : List Gt} {k : Nat} (hk : k < (Ln l).length) : (Ln l).getD k 0 < l.length := Ln_lt _ (getD_mem hk)
theorem inc_of {L : List Nat} (hs : L.Pairwise (fun a b => a < b)) {k : Nat} (hk : k + 1 < L.length) : L.getD k 0 < L.getD (k + 1) 0 := by
  rw [List.getD_eq_getElem?_getD, List.getD_eq_getElem?_getD, List.getElem?_eq_getElem (by omega), List.getElem?_eq_getElem hk]
  exact List.pairwise_iff_getElem.1 hs k (k + 1) (by omega) hk (by omega)
theorem stack_sorted {l : List Gt} (o : Ok l) (y : Nat → Int) : (stack (Xs l) y l.length).reverse.Pairwise (fun a b => a < b) := by
  have hp := o.pos
  obtain ⟨m, hm⟩ : ∃ m, l.length = m + 1 := ⟨l.length - 1, by omega⟩
  have := good_sorted (stack_good (x := Xs l) (y := y) o.lt m (by omega)).1
  rw [List.pairwise_reverse, hm]
  exact this
/-- the first and the last -/
theorem ends_of {L : List Nat} {n : Nat} (hs : L.Pairwise (fun a b => a < b)) (hn : 0 < n) (h0 : 0 ∈ L) (h1 : n - 1 ∈ L) (hL : ∀ k, k ∈ L → k < n) : 0 < L.length ∧ L.getD 0 0 = 0 ∧ L.getD (L.length - 1) 0 = n - 1 := by
  have hpos : 0 < L.length := List.length_pos_iff.2 (fun e => by subst e; cases h0)
  have key := List.pairwise_iff_getElem.1 hs
  refine ⟨hpos, ?_, ?_⟩
  · obtain ⟨i, hi, e⟩ := List.getElem_of_mem h0
    rw [List.getD_eq_getElem?_getD, List.getElem?_eq_getElem hpos]
    show L[0] = 0
    by_cases h : i = 0
    · subst h; exact e
    · have := key 0 i hpos hi (by omega); omega
  · obtain ⟨i, hi, e⟩ := List.getElem_of_mem h1
    rw [List.getD_eq_getElem?_getD, List.getElem?_eq_getElem (by omega)]
    show L[L.length - 1] = n - 1
    by_cases h : i = L.length - 1
    · subst h; exact e
    · have h2 := key i (L.length - 1) hi (by omega) (by omega)
      have h3 := hL _ (List.getElem_mem (show L.length - 1 < L.length by omega))
      omega
/-- the copy M of the gates, in its block -/
structure Mm (h h2 h1 : Heap) (l M : List Gt) (fl : Bool) : Prop where
  ex : Ext h h1
  nx : h2.next + 1 + 1 ≤ h1.next
  n2 : h.next ≤ h2.next
  g : h1.get (h2.next + 1) = some ⟨gcells M, fl, false, some 3⟩
  old : ∀ b, b < h2.next → h1.get b = h2.get b
  len : M.length = l.length
theorem Mm.set {h h2 h1 : Heap} {l M M' : List Gt} {fl : Bool} (t : Mm h h2 h1 l M fl) (hl : M'.length = l.length) : Mm h h2 (h1.set (h2.next + 1) ⟨gcells M', fl, false, some 3⟩) l M' fl :=
  have := t.n2
  ⟨t.ex.set (by omega) _, t.nx, t.n2, Heap.get_set_same _ _ _, fun b hb => (Heap.get_set_ne _ _ (by omega)).trans (t.old b hb), hl⟩
theorem Mm.ia {h h2 h1 : Heap} {l M : List Gt} {fl : Bool} (t : Mm h h2 h1 l M fl) {xs : List Int} {a : Option Addr} (g : IA h2 xs a) : IA h1 xs a := fun hl => by
  obtain ⟨b, blk, ext, e1, e2, e3, e4⟩ := g hl
  have := t.nx
  exact ⟨b, blk, ext, e1, (t.old b e4).trans e2, e3, by omega⟩
theorem Mm.gam {h h2 h1 : Heap} {l M : List Gt} {fl : Bool} (t : Mm h h2 h1 l M fl) : GA h1 M (some ⟨h2.next + 1, 0, none⟩) := fun _ => by
  have := t.nx
  exact ⟨_, _, [], rfl, t.g, (List.append_nil _).symm, by omega⟩
structure P8 (l : List Gt) (U L : List Nat) (a a1 a2 : Option Addr) (c c1 c2 : Nat) (h h2 : Heap) (fl : Bool) (M : List Gt) (e : Env) (h1 : Heap) : Prop where
  t : Mm h h2 h1 l M fl
  e0 : e.get 0 = .slice a l.length c
  e3 : e.get 3 = .slice a1 U.length c1
  e4 : e.get 4 = .slice a2 L.length c2
  e5 : e.get 5 = .slice (some ⟨h2.next + 1, 0, none⟩) l.length l.length
structure I8a (l : List Gt) (U L : List Nat) (a a1 a2 : Option Addr) (c c1 c2 : Nat) (h h2 : Heap) (fl : Bool) (i : Nat) (M : List Gt) (e : Env) (h1 : Heap) : Prop extends P8 l U L a a1 a2 c c1 c2 h h2 fl M e h1 where
  e6 : e.get 6 = .int .i64 (i : Int)
  le : i ≤ l.length
  m : ∀ t, t < l.length → gt M t = if t < i then ⟨(gt l t).x, -1073741824, 1073741824⟩ else gt l t
structure I8b (l : List Gt) (U L : List Nat) (a a1 a2 : Option Addr) (c c1 c2 : Nat) (h h2 : Heap) (fl : Bool) (i : Nat) (M : List Gt) (e : Env) (h1 : Heap) : Prop extends P8 l U L a a1 a2 c c1 c2 h h2 fl M e h1 where
  e7 : e.get 7 = .int .i64 (i : Int)
  le : i ≤ U.length
  m : ∀ t, t < l.length → gt M t = ⟨(gt l t).x, -1073741824, if t ∈ U.take i then (gt l t).hi else 1073741824⟩
structure I8c (l : List Gt) (U L : List Nat) (a a1 a2 : Option Addr) (c c1 c2 : Nat) (h h2 : Heap) (fl : Bool) (i : Nat) (M : List Gt) (e : Env) (h1 : Heap) : Prop extends P8 l U L a a1 a2 c c1 c2 h h2 fl M e h1 where
  e8 : e.get 8 = .int .i64 (i : Int)
  le : i ≤ L.length
  m : ∀ t, t < l.length → gt M t = ⟨(gt l t).x, if t ∈ L.take i then (gt l t).lo else -1073741824, if t ∈ U then (gt l t).hi else 1073741824⟩
theorem take_mem {L : List Nat} {i t : Nat} (hi : i < L.length) : t ∈ L.take (i + 1) ↔ t ∈ L.take i ∨ t = L.getD i 0 := by
  rw [List.take_add_one, List.getElem?_eq_getElem hi, List.getD_eq_getElem?_getD, List.getElem?_eq_getElem hi, List.mem_append]
  exact or_congr Iff.rfl List.mem_singleton
/-- the gates of the corners alone suit the same slopes -/
theorem m_ok {l M : List Gt} (o : Ok l) (hl : M.length = l.length) (hm : ∀ t, t < l.length → gt M t = ⟨(gt l t).x, if t ∈ Ln l then (gt l t).lo else -1073741824, if t ∈ Un l then (gt l t).hi else 1073741824⟩) : Ok M ∧ ∀ p q, 0 < q → (AllFe l p q ↔ AllFe M p q) := by
  refine ⟨⟨by rw [hl]; exact o.pos, fun i hi => ?_, fun i hi => ?_⟩, fun p q hq => ⟨fun h i j hi hj => ?_, fun h => ?_⟩⟩
  · rw [hl] at hi
    have := o.rng i hi
    rw [hm i hi]
    dsimp only
    split <;> split <;> omega
  · rw [hl] at hi
    rw [hm i (by omega), hm (i + 1) hi]
    exact o.step i hi
  · rw [hl] at hi hj
    have h1 := h i j hi hj
    have ri := o.rng i hi
    have rj := o.rng j hj
    unfold Fe at h1 ⊢
    rw [hm i hi, hm j hj]
    dsimp only
    have a1 : q * (if i ∈ Ln l then (gt l i).lo else -1073741824) ≤ q * (gt l i).lo := Int.mul_le_mul_of_nonneg_left (by split <;> omega) (Int.le_of_lt hq)
    have a2 : q * (gt l j).hi ≤ q * (if j ∈ Un l then (gt l j).hi else 1073741824) := Int.mul_le_mul_of_nonneg_left (by split <;> omega) (Int.le_of_lt hq)
    omega
  · refine fe_corners o (Int.le_of_lt hq) fun i hi j hj => ?_
    have i' := Ln_lt i hi
    have j' := Un_lt j hj
    have h1 := h i j (by omega) (by omega)
    unfold Fe at h1 ⊢
    rw [hm i i', hm j j', if_pos hi, if_pos hj] at h1
    exact h1
theorem w8_ok (l : List Gt) (a : Option Addr) (c : Nat) (h : Heap) (hg : GA h l a) (o : Ok l) (hl : l.length ≤ 24) :
    ∃ code, Try.f8.body = some code ∧ Wp Try.prog cfT (SkH 8) code (doneQ Try.prog Try.f8.results.toList (fun vs _ => vs = [.bool true])) (Env.ofList [.slice a l.length c] 0) (h.low h.next) := by
  refine ⟨_, rfl, ?_⟩
  show Wp Try.prog cfT (SkH 8) _ (doneQ Try.prog [.tmp 2] _) _ _
  have t10 : cfT 10 = callW Try.prog SkH 10 := cfT_ne (by decide)
  have t12 : cfT 12 = callW Try.prog SkH 12 := cfT_ne (by decide)
  have t14 : cfT 14 = callW Try.prog SkH 14 := cfT_ne (by decide)
  have t19 : cfT 19 = callW Try.prog SkH 19 := cfT_ne (by decide)
  have t21 : cfT 21 = callW Try.prog SkH 21 := cfT_ne (by decide)
  have hf : ((l.length : Int) ≤ 24) = True := eq_true (by omega)
  have hz := (checkZ_ok l).2 o
  have q14 := c14 l a c (h.low h.next) (hg.ext (Ext.low h)) hl
  refine W.forget (fun e1 he1 => ?_)
  have f0_1 := congrArg (fun q => Env.get q 0) he1
  simp only [ofList_cons, ofList_nil, go_sem, Nat.reduceEqDiff, reduceIte] at f0_1
  clear he1
  refine W.seq ?_
  refine W.region (fun K hK => ?_)
  simp (config := { maxSteps := 10000000 }) only [go_sem, ↓forkQ_true, ↓forkQ_false, ↓guardQ_some, ↓resQ_val, ↓resQ_unit, ↓resQ_enter, ↓retQ_some, ↓resFQ_val, ↓resFQ_unit, ↓resFQ_enter, ↓retFQ_some, Nat.reduceEqDiff, reduceIte, Nat.reduceAdd, Nat.reduceMul, Nat.reduceSub, reduceCtorEq, Nat.reduceLeDiff, f0_1, t10, t12, t14, t19, t21]
  refine hK _ _ ?_
  clear hK K
  refine W.forget (fun e2 he2 => ?_)
  have f0_2 := congrArg (fun q => Env.get q 0) he2
  simp only [go_sem, Nat.reduceEqDiff, reduceIte, f0_1] at f0_2
  have f2_2 := congrArg (fun q => Env.get q 2) he2
  simp only [go_sem, Nat.reduceEqDiff, reduceIte] at f2_2
  clear he2 f0_1
  refine W.thenN ?_
  refine W.seq ?_
  refine W.seq ?_
  refine W.regionA (fun A hA K hK => ?_)
  have gd3 := guardAt hA (j := 3) (d := 18) rfl
  clear hA
  simp (config := { maxSteps := 10000000 }) only [go_sem, ↓forkQ_true, ↓forkQ_false, ↓guardQ_some, ↓resQ_val, ↓resQ_unit, ↓resQ_enter, ↓retQ_some, ↓resFQ_val, ↓resFQ_unit, ↓resFQ_enter, ↓retFQ_some, Nat.reduceEqDiff, reduceIte, Nat.reduceAdd, Nat.reduceMul, Nat.reduceSub, reduceCtorEq, Nat.reduceLeDiff, f0_2, f2_2, t10, t12, t14, t19, t21, c10, hf, q14, hz, gd3]
  repeat' (first | (refine W.forkP (fun hc3 => ?_) (fun hc3 => ?_) <;> simp (config := { maxSteps := 10000000 }) only [go_sem, ↓forkQ_true, ↓forkQ_false, ↓guardQ_some, ↓resQ_val, ↓resQ_unit, ↓resQ_enter, ↓retQ_some, ↓resFQ_val, ↓resFQ_unit, ↓resFQ_enter, ↓retFQ_some, Nat.reduceEqDiff, reduceIte, Nat.reduceAdd, Nat.reduceMul, Nat.reduceSub, reduceCtorEq, Nat.reduceLeDiff, f0_2, f2_2, t10, t12, t14, t19, t21, c10, hf, q14, hz, gd3, hc3]) | (refine W.fork (fun hc3 => ?_) (fun hc3 => ?_) <;> simp (config := { maxSteps := 10000000 }) only [go_sem, ↓forkQ_true, ↓forkQ_false, ↓guardQ_some, ↓resQ_val, ↓resQ_unit, ↓resQ_enter, ↓retQ_some, ↓resFQ_val, ↓resFQ_unit, ↓resFQ_enter, ↓retFQ_some, Nat.reduceEqDiff, reduceIte, Nat.reduceAdd, Nat.reduceMul, Nat.reduceSub, reduceCtorEq, Nat.reduceLeDiff, f0_2, f2_2, t10, t12, t14, t19, t21, c10, hf, q14, hz, gd3, hc3]))
  all_goals
    refine hK _ _ ?_
    clear hK K A gd3
    refine W.forget (fun e3 he3 => ?_)
    have f0_3 := congrArg (fun q => Env.get q 0) he3
    simp only [go_sem, Nat.reduceEqDiff, reduceIte, f0_2] at f0_3
    have f2_3 := congrArg (fun q => Env.get q 2) he3
    simp only [go_sem, Nat.reduceEqDiff, reduceIte, f2_2] at f2_3
    have f22_3 := congrArg (fun q => Env.get q 22) he3
    simp only [go_sem, Nat.reduceEqDiff, reduceIte] at f22_3
    clear he3 f0_2 f2_2
    refine W.thenN ?_
    refine W.cond f22_3 (fun hc4 => ?_) (fun hc4 => ?_)
    · first
      | (cases hc4; done)
      | (exfalso; simp only [decide_eq_true_eq, decide_eq_false_iff_not, Bool.not_eq_true', Bool.not_eq_false', Bool.not_eq_eq_eq_not, Bool.not_true, Bool.not_false] at hc4; omega)
      | (skip
         try simp only [decide_eq_true_eq, decide_eq_false_iff_not, Bool.not_eq_true', Bool.not_eq_false', Bool.not_eq_eq_eq_not, Bool.not_true, Bool.not_false] at hc4
         refine W.seq ?_
         refine W.region (fun K hK => ?_)
         simp (config := { maxSteps := 10000000 }) only [go_sem, ↓forkQ_true, ↓forkQ_false, ↓guardQ_some, ↓resQ_val, ↓resQ_unit, ↓resQ_enter, ↓retQ_some, ↓resFQ_val, ↓resFQ_unit, ↓resFQ_enter, ↓retFQ_some, Nat.reduceEqDiff, reduceIte, Nat.reduceAdd, Nat.reduceMul, Nat.reduceSub, reduceCtorEq, Nat.reduceLeDiff, f0_3, f2_3, f22_3, t10, t12, t14, t19, t21, c10, hf, q14, hz]
         refine hK _ _ ?_
         clear hK K
         refine W.forget (fun e5 he5 => ?_)
         have f0_5 := congrArg (fun q => Env.get q 0) he5
         simp only [go_sem, Nat.reduceEqDiff, reduceIte, f0_3] at f0_5
         have f2_5 := congrArg (fun q => Env.get q 2) he5
         simp only [go_sem, Nat.reduceEqDiff, reduceIte, f2_3] at f2_5
         clear he5 f0_3 f2_3 f22_3
         refine W.thenN ?_
         refine W.ret ?_
         refine W.thenR ?_
         rw [doneQ_ret]
         exact ⟨[.bool true], by simp only [go_sem, ↓forkQ_true, ↓forkQ_false, ↓guardQ_some, ↓resQ_val, ↓resQ_unit, ↓resQ_enter, ↓retQ_some, ↓resFQ_val, ↓resFQ_unit, ↓resFQ_enter, ↓retFQ_some, Nat.reduceEqDiff, reduceIte, Nat.reduceAdd, Nat.reduceMul, Nat.reduceSub, reduceCtorEq, Nat.reduceLeDiff, f0_5, f2_5], rfl⟩)
    · first
      | (cases hc4; done)
      | (exfalso; simp only [decide_eq_true_eq, decide_eq_false_iff_not, Bool.not_eq_true', Bool.not_eq_false', Bool.not_eq_eq_eq_not, Bool.not_true, Bool.not_false] at hc4; omega)
      | (skip
         try simp only [decide_eq_true_eq, decide_eq_false_iff_not, Bool.not_eq_true', Bool.not_eq_false', Bool.not_eq_eq_eq_not, Bool.not_true, Bool.not_false] at hc4
         refine W.skip ?_
         refine W.thenN ?_
         refine W.seq ?_
         refine W.region (fun K hK => ?_)
         have hz := (checkZ_ok l).2 o
         obtain ⟨a1, c1, a2, c2, k1, k2, q19, q21, _, g2, hga2, i1, i2⟩ := slopes_at l a c (h.low h.next) (hg.ext (Ext.low h)) hl hz
         have ex2 := (Ext.low h).grow g2
         simp (config := { maxSteps := 10000000 }) only [go_sem, ↓forkQ_true, ↓forkQ_false, ↓guardQ_some, ↓resQ_val, ↓resQ_unit, ↓resQ_enter, ↓retQ_some, ↓resFQ_val, ↓resFQ_unit, ↓resFQ_enter, ↓retFQ_some, Nat.reduceEqDiff, reduceIte, Nat.reduceAdd, Nat.reduceMul, Nat.reduceSub, reduceCtorEq, Nat.reduceLeDiff, f0_3, f2_3, f22_3, t10, t12, t14, t19, t21, c10, hf, q14, hz, q19, q21]
         refine hK _ _ ?_
         clear hK K
         refine W.forget (fun e6 he6 => ?_)
         have f0_6 := congrArg (fun q => Env.get q 0) he6
         simp only [go_sem, Nat.reduceEqDiff, reduceIte, f0_3] at f0_6
         have f2_6 := congrArg (fun q => Env.get q 2) he6
         simp only [go_sem, Nat.reduceEqDiff, reduceIte, f2_3] at f2_6
         have f3_6 := congrArg (fun q => Env.get q 3) he6
         simp only [go_sem, Nat.reduceEqDiff, reduceIte] at f3_6
         have f4_6 := congrArg (fun q => Env.get q 4) he6
         simp only [go_sem, Nat.reduceEqDiff, reduceIte] at f4_6
         clear he6 f0_3 f2_3 f22_3
         refine W.thenN ?_
         refine W.seq ?_
         refine W.region (fun K hK => ?_)
         obtain ⟨fl, qap⟩ := append_copy (c := c) (k := k2.next) (hga2.grow (Grow.alloc k2 ⟨[], true, false, none⟩)) o.pos (by omega) (Heap.get_alloc_same _ _)
         obtain ⟨b0, blk, ext, rfl, hb0, hcs, hbl⟩ := hga2 (ne_of_lt o.pos)
         simp (config := { maxSteps := 10000000 }) only [go_sem, ↓forkQ_true, ↓forkQ_false, ↓guardQ_some, ↓resQ_val, ↓resQ_unit, ↓resQ_enter, ↓retQ_some, ↓resFQ_val, ↓resFQ_unit, ↓resFQ_enter, ↓retFQ_some, Nat.reduceEqDiff, reduceIte, Nat.reduceAdd, Nat.reduceMul, Nat.reduceSub, reduceCtorEq, Nat.reduceLeDiff, f0_6, f2_6, f3_6, f4_6, t10, t12, t14, t19, t21, c10, hf, q14, hz, q19, q21, qap]
         refine hK _ _ ?_
         clear hK K
         refine W.forget (fun e7 he7 => ?_)
         refine W.forgetH (fun k4 hk7 => ?_)
         have t4 : Mm h k2 k4 l l fl := by rw [hk7]; exact ⟨(ex2.alloc _).alloc _, Nat.le_refl _, ex2.next, Heap.get_alloc_same (k2.alloc _) _, fun b hb => (Heap.get_alloc_ne (k2.alloc _) _ (by show b ≠ k2.next + 1; omega)).trans (Heap.get_alloc_ne _ _ (by omega)), rfl⟩
         clear hk7
         have f0_7 := congrArg (fun q => Env.get q 0) he7
         simp only [go_sem, Nat.reduceEqDiff, reduceIte, f0_6] at f0_7
         have f2_7 := congrArg (fun q => Env.get q 2) he7
         simp only [go_sem, Nat.reduceEqDiff, reduceIte, f2_6] at f2_7
         have f3_7 := congrArg (fun q => Env.get q 3) he7
         simp only [go_sem, Nat.reduceEqDiff, reduceIte, f3_6] at f3_7
         have f4_7 := congrArg (fun q => Env.get q 4) he7
         simp only [go_sem, Nat.reduceEqDiff, reduceIte, f4_6] at f4_7
         have f5_7 := congrArg (fun q => Env.get q 5) he7
         simp only [go_sem, Nat.reduceEqDiff, reduceIte] at f5_7
         clear he7 f0_6 f2_6 f3_6 f4_6
         refine W.thenN ?_
         refine W.seq ?_
         refine W.seq ?_
         refine W.region (fun K hK => ?_)
         simp (config := { maxSteps := 10000000 }) only [go_sem, ↓forkQ_true, ↓forkQ_false, ↓guardQ_some, ↓resQ_val, ↓resQ_unit, ↓resQ_enter, ↓retQ_some, ↓resFQ_val, ↓resFQ_unit, ↓resFQ_enter, ↓retFQ_some, Nat.reduceEqDiff, reduceIte, Nat.reduceAdd, Nat.reduceMul, Nat.reduceSub, reduceCtorEq, Nat.reduceLeDiff, f0_7, f2_7, f3_7, f4_7, f5_7, t10, t12, t14, t19, t21, c10, hf, q14, hz, q19, q21, qap]
         refine hK _ _ ?_
         clear hK K
         refine W.forget (fun e8 he8 => ?_)
         have f0_8 := congrArg (fun q => Env.get q 0) he8
         simp only [go_sem, Nat.reduceEqDiff, reduceIte, f0_7] at f0_8
         have f2_8 := congrArg (fun q => Env.get q 2) he8
         simp only [go_sem, Nat.reduceEqDiff, reduceIte, f2_7] at f2_8
         have f3_8 := congrArg (fun q => Env.get q 3) he8
         simp only [go_sem, Nat.reduceEqDiff, reduceIte, f3_7] at f3_8
         have f4_8 := congrArg (fun q => Env.get q 4) he8
         simp only [go_sem, Nat.reduceEqDiff, reduceIte, f4_7] at f4_8
         have f5_8 := congrArg (fun q => Env.get q 5) he8
         simp only [go_sem, Nat.reduceEqDiff, reduceIte, f5_7] at f5_8
         have f6_8 := congrArg (fun q => Env.get q 6) he8
         simp only [go_sem, Nat.reduceEqDiff, reduceIte] at f6_8
         clear he8 f0_7 f2_7 f3_7 f4_7 f5_7
         refine W.thenN ?_
         refine W.block ?_
         refine wq_rounds (fun s : Nat × List Gt => l.length - s.1) (fun s => I8a l (Un l) (Ln l) (some ⟨b0, 0, none⟩) a1 a2 c c1 c2 h k2 fl s.1 s.2) ?_ (0, l) _ _ ?_
         · intro ⟨i, M⟩ e9 k1 hi
           replace hi : I8a l (Un l) (Ln l) (some ⟨b0, 0, none⟩) a1 a2 c c1 c2 h k2 fl i M _ k1 := hi
           have f0_9 := hi.e0
           have f3_9 := hi.e3
           have f4_9 := hi.e4
           have f5_9 := hi.e5
           have f6_9 := hi.e6
           have ul := Un_len l
           have ll := Ln_len l
           have t := hi.t
           have ex := t.ex
           have hle := hi.le
           have hml := t.len
           have n2 := t.n2
           have nx := t.nx
           have hadd : wrapF .i64 ((i : Int) + 1) = ((i + 1 : Nat) : Int) := by rw [w64_in _ (by omega)]; omega
           have gm := t.g
           refine W.seq ?_
           refine W.seq ?_
           refine W.region (fun K hK => ?_)
           simp (config := { maxSteps := 10000000 }) only [go_sem, ↓forkQ_true, ↓forkQ_false, ↓guardQ_some, ↓resQ_val, ↓resQ_unit, ↓resQ_enter, ↓retQ_some, ↓resFQ_val, ↓resFQ_unit, ↓resFQ_enter, ↓retFQ_some, Nat.reduceEqDiff, reduceIte, Nat.reduceAdd, Nat.reduceMul, Nat.reduceSub, reduceCtorEq, Nat.reduceLeDiff, f0_9, f3_9, f4_9, f5_9, f6_9, t10, t12, t14, t19, t21, hadd]
           refine hK _ _ ?_
           clear hK K
           refine W.forget (fun e10 he10 => ?_)
           have f0_10 := congrArg (fun q => Env.get q 0) he10
           simp only [go_sem, Nat.reduceEqDiff, reduceIte, f0_9] at f0_10
           have f3_10 := congrArg (fun q => Env.get q 3) he10
           simp only [go_sem, Nat.reduceEqDiff, reduceIte, f3_9] at f3_10
           have f4_10 := congrArg (fun q => Env.get q 4) he10
           simp only [go_sem, Nat.reduceEqDiff, reduceIte, f4_9] at f4_10
           have f5_10 := congrArg (fun q => Env.get q 5) he10
           simp only [go_sem, Nat.reduceEqDiff, reduceIte, f5_9] at f5_10
           have f6_10 := congrArg (fun q => Env.get q 6) he10
           simp only [go_sem, Nat.reduceEqDiff, reduceIte, f6_9] at f6_10
           have f34_10 := congrArg (fun q => Env.get q 34) he10
           simp only [go_sem, Nat.reduceEqDiff, reduceIte] at f34_10
           clear he10 f0_9 f3_9 f4_9 f5_9 f6_9
           refine W.thenN ?_
           refine W.cond f34_10 (fun hc11 => ?_) (fun hc11 => ?_)
           · first
             | (cases hc11; done)
             | (exfalso; simp only [decide_eq_true_eq, decide_eq_false_iff_not, Bool.not_eq_true', Bool.not_eq_false', Bool.not_eq_eq_eq_not, Bool.not_true, Bool.not_false] at hc11; omega)
             | (skip
                try simp only [decide_eq_true_eq, decide_eq_false_iff_not, Bool.not_eq_true', Bool.not_eq_false', Bool.not_eq_eq_eq_not, Bool.not_true, Bool.not_false] at hc11
                refine W.skip ?_
                refine W.thenN ?_
                refine W.seq ?_
                refine W.block ?_
                refine W.seq ?_
                refine W.region (fun K hK => ?_)
                have hlt : i < l.length := by omega
                have hir := inRange_nat hlt
                have bl1 : (i * 3 + 2 + 1 ≤ (gcells M).length) = True := eq_true (by rw [gcells_len]; omega)
                have p1 := put_hi M [] i (by omega) 1073741824
                rw [List.append_nil, List.append_nil] at p1
                simp (config := { maxSteps := 10000000 }) only [go_sem, ↓forkQ_true, ↓forkQ_false, ↓guardQ_some, ↓resQ_val, ↓resQ_unit, ↓resQ_enter, ↓retQ_some, ↓resFQ_val, ↓resFQ_unit, ↓resFQ_enter, ↓retFQ_some, Nat.reduceEqDiff, reduceIte, Nat.reduceAdd, Nat.reduceMul, Nat.reduceSub, reduceCtorEq, Nat.reduceLeDiff, f0_10, f3_10, f4_10, f5_10, f6_10, f34_10, t10, t12, t14, t19, t21, hadd, hir, gm, bl1, p1]
                refine hK _ _ ?_
                clear hK K
                refine W.forget (fun e12 he12 => ?_)
                refine W.forgetH (fun k8 hk12 => ?_)
                have t8 : Mm h k2 k8 l (M.set i ⟨(gt M i).x, (gt M i).lo, 1073741824⟩) fl := by rw [hk12]; exact t.set (by rw [List.length_set]; omega)
                clear hk12
                have f0_12 := congrArg (fun q => Env.get q 0) he12
                simp only [go_sem, Nat.reduceEqDiff, reduceIte, f0_10] at f0_12
                have f3_12 := congrArg (fun q => Env.get q 3) he12
                simp only [go_sem, Nat.reduceEqDiff, reduceIte, f3_10] at f3_12
                have f4_12 := congrArg (fun q => Env.get q 4) he12
                simp only [go_sem, Nat.reduceEqDiff, reduceIte, f4_10] at f4_12
                have f5_12 := congrArg (fun q => Env.get q 5) he12
                simp only [go_sem, Nat.reduceEqDiff, reduceIte, f5_10] at f5_12
                have f6_12 := congrArg (fun q => Env.get q 6) he12
                simp only [go_sem, Nat.reduceEqDiff, reduceIte, f6_10] at f6_12
                clear he12 f0_10 f3_10 f4_10 f5_10 f6_10 f34_10
                refine W.thenN ?_
                refine W.region (fun K hK => ?_)
                have gm8 := t8.g
                have hml8 := t8.len
                have bl2 : (i * 3 + 1 + 1 ≤ (gcells (M.set i ⟨(gt M i).x, (gt M i).lo, 1073741824⟩)).length) = True := eq_true (by rw [gcells_len]; omega)
                have p2 := put_lo (M.set i ⟨(gt M i).x, (gt M i).lo, 1073741824⟩) [] i (by omega) (-1073741824)
                rw [List.append_nil, List.append_nil] at p2
                simp (config := { maxSteps := 10000000 }) only [go_sem, ↓forkQ_true, ↓forkQ_false, ↓guardQ_some, ↓resQ_val, ↓resQ_unit, ↓resQ_enter, ↓retQ_some, ↓resFQ_val, ↓resFQ_unit, ↓resFQ_enter, ↓retFQ_some, Nat.reduceEqDiff, reduceIte, Nat.reduceAdd, Nat.reduceMul, Nat.reduceSub, reduceCtorEq, Nat.reduceLeDiff, f0_12, f3_12, f4_12, f5_12, f6_12, t10, t12, t14, t19, t21, hadd, hir, gm, bl1, p1, gm8, bl2, p2]
                refine hK _ _ ?_
                clear hK K
                refine W.forget (fun e13 he13 => ?_)
                refine W.forgetH (fun k9 hk13 => ?_)
                have t9 := t8.set (M' := (M.set i ⟨(gt M i).x, (gt M i).lo, 1073741824⟩).set i ⟨(gt (M.set i ⟨(gt M i).x, (gt M i).lo, 1073741824⟩) i).x, -1073741824, (gt (M.set i ⟨(gt M i).x, (gt M i).lo, 1073741824⟩) i).hi⟩) (by rw [List.length_set]; exact hml8)
                rw [← hk13] at t9
                clear hk13
                have f0_13 := congrArg (fun q => Env.get q 0) he13
                simp only [go_sem, Nat.reduceEqDiff, reduceIte, f0_12] at f0_13
                have f3_13 := congrArg (fun q => Env.get q 3) he13
                simp only [go_sem, Nat.reduceEqDiff, reduceIte, f3_12] at f3_13
                have f4_13 := congrArg (fun q => Env.get q 4) he13
                simp only [go_sem, Nat.reduceEqDiff, reduceIte, f4_12] at f4_13
                have f5_13 := congrArg (fun q => Env.get q 5) he13
                simp only [go_sem, Nat.reduceEqDiff, reduceIte, f5_12] at f5_13
                have f6_13 := congrArg (fun q => Env.get q 6) he13
                simp only [go_sem, Nat.reduceEqDiff, reduceIte, f6_12] at f6_13
                clear he13 f0_12 f3_12 f4_12 f5_12 f6_12
                refine W.blockN ?_
                refine W.thenN ?_
                refine W.region (fun K hK => ?_)
                simp (config := { maxSteps := 10000000 }) only [go_sem, ↓forkQ_true, ↓forkQ_false, ↓guardQ_some, ↓resQ_val, ↓resQ_unit, ↓resQ_enter, ↓retQ_some, ↓resFQ_val, ↓resFQ_unit, ↓resFQ_enter, ↓retFQ_some, Nat.reduceEqDiff, reduceIte, Nat.reduceAdd, Nat.reduceMul, Nat.reduceSub, reduceCtorEq, Nat.reduceLeDiff, f0_13, f3_13, f4_13, f5_13, f6_13, t10, t12, t14, t19, t21, hadd, hir, gm, bl1, p1, gm8, bl2, p2]
                refine hK _ _ ?_
                clear hK K
                refine W.forget (fun e14 he14 => ?_)
                have f0_14 := congrArg (fun q => Env.get q 0) he14
                simp only [go_sem, Nat.reduceEqDiff, reduceIte, f0_13] at f0_14
                have f3_14 := congrArg (fun q => Env.get q 3) he14
                simp only [go_sem, Nat.reduceEqDiff, reduceIte, f3_13] at f3_14
                have f4_14 := congrArg (fun q => Env.get q 4) he14
                simp only [go_sem, Nat.reduceEqDiff, reduceIte, f4_13] at f4_14
                have f5_14 := congrArg (fun q => Env.get q 5) he14
                simp only [go_sem, Nat.reduceEqDiff, reduceIte, f5_13] at f5_14
                have f6_14 := congrArg (fun q => Env.get q 6) he14
                simp only [go_sem, Nat.reduceEqDiff, reduceIte, f6_13] at f6_14
                clear he14 f0_13 f3_13 f4_13 f5_13 f6_13
                refine W.thenN ?_
                exact ⟨(i + 1, _), by dsimp only; omega, ⟨t9, f0_14, f3_14, f4_14, f5_14⟩, f6_14, by dsimp only; omega, fun q hq => by
  dsimp only
  rw [gt_set _ _ _ (by rw [List.length_set]; omega), gt_set _ _ _ (by omega), gt_set _ _ _ (by omega), if_pos rfl]
  have hq2 := hi.m q hq
  have hi2 := hi.m i hlt
  rw [if_neg (Nat.lt_irrefl i)] at hi2
  by_cases e : i = q
  · subst e; rw [if_pos rfl, if_pos (Nat.lt_succ_self i), hi2]
  · rw [if_neg e, if_neg e, hq2]
    by_cases hc : q < i
    · rw [if_pos hc, if_pos (by omega)]
    · rw [if_neg hc, if_neg (by omega)]⟩)
           · first
             | (cases hc11; done)
             | (exfalso; simp only [decide_eq_true_eq, decide_eq_false_iff_not, Bool.not_eq_true', Bool.not_eq_false', Bool.not_eq_eq_eq_not, Bool.not_true, Bool.not_false] at hc11; omega)
             | (skip
                try simp only [decide_eq_true_eq, decide_eq_false_iff_not, Bool.not_eq_true', Bool.not_eq_false', Bool.not_eq_eq_eq_not, Bool.not_true, Bool.not_false] at hc11
                refine W.exit ?_
                refine W.thenE ?_
                refine W.thenE ?_
                refine W.blockE ?_
                refine W.thenN ?_
                refine W.seq ?_
                refine W.seq ?_
                refine W.region (fun K hK => ?_)
                simp (config := { maxSteps := 10000000 }) only [go_sem, ↓forkQ_true, ↓forkQ_false, ↓guardQ_some, ↓resQ_val, ↓resQ_unit, ↓resQ_enter, ↓retQ_some, ↓resFQ_val, ↓resFQ_unit, ↓resFQ_enter, ↓retFQ_some, Nat.reduceEqDiff, reduceIte, Nat.reduceAdd, Nat.reduceMul, Nat.reduceSub, reduceCtorEq, Nat.reduceLeDiff, f0_10, f3_10, f4_10, f5_10, f6_10, f34_10, t10, t12, t14, t19, t21]
                refine hK _ _ ?_
                clear hK K
                refine W.forget (fun e15 he15 => ?_)
                have f0_15 := congrArg (fun q => Env.get q 0) he15
                simp only [go_sem, Nat.reduceEqDiff, reduceIte, f0_10] at f0_15
                have f3_15 := congrArg (fun q => Env.get q 3) he15
                simp only [go_sem, Nat.reduceEqDiff, reduceIte, f3_10] at f3_15
                have f4_15 := congrArg (fun q => Env.get q 4) he15
                simp only [go_sem, Nat.reduceEqDiff, reduceIte, f4_10] at f4_15
                have f5_15 := congrArg (fun q => Env.get q 5) he15
                simp only [go_sem, Nat.reduceEqDiff, reduceIte, f5_10] at f5_15
                have f7_15 := congrArg (fun q => Env.get q 7) he15
                simp only [go_sem, Nat.reduceEqDiff, reduceIte] at f7_15
                clear he15 f0_10 f3_10 f4_10 f5_10 f6_10 f34_10
                refine W.thenN ?_
                refine W.block ?_
                refine wq_rounds (fun s : Nat × List Gt => (Un l).length - s.1) (fun s => I8b l (Un l) (Ln l) (some ⟨b0, 0, none⟩) a1 a2 c c1 c2 h k2 fl s.1 s.2) ?_ (0, M) _ _ ?_
                · intro ⟨r, M⟩ e16 k1 hi
                  replace hi : I8b l (Un l) (Ln l) (some ⟨b0, 0, none⟩) a1 a2 c c1 c2 h k2 fl r M _ k1 := hi
                  have f0_16 := hi.e0
                  have f3_16 := hi.e3
                  have f4_16 := hi.e4
                  have f5_16 := hi.e5
                  have f7_16 := hi.e7
                  have ul := Un_len l
                  have ll := Ln_len l
                  have t := hi.t
                  have ex := t.ex
                  have hle := hi.le
                  have hml := t.len
                  have n2 := t.n2
                  have nx := t.nx
                  have hadd : wrapF .i64 ((r : Int) + 1) = ((r + 1 : Nat) : Int) := by rw [w64_in _ (by omega)]; omega
                  have gm := t.g
                  refine W.seq ?_
                  refine W.seq ?_
                  refine W.region (fun K hK => ?_)
                  simp (config := { maxSteps := 10000000 }) only [go_sem, ↓forkQ_true, ↓forkQ_false, ↓guardQ_some, ↓resQ_val, ↓resQ_unit, ↓resQ_enter, ↓retQ_some, ↓resFQ_val, ↓resFQ_unit, ↓resFQ_enter, ↓retFQ_some, Nat.reduceEqDiff, reduceIte, Nat.reduceAdd, Nat.reduceMul, Nat.reduceSub, reduceCtorEq, Nat.reduceLeDiff, f0_16, f3_16, f4_16, f5_16, f7_16, t10, t12, t14, t19, t21, hadd]
                  refine hK _ _ ?_
                  clear hK K
                  refine W.forget (fun e17 he17 => ?_)
                  have f0_17 := congrArg (fun q => Env.get q 0) he17
                  simp only [go_sem, Nat.reduceEqDiff, reduceIte, f0_16] at f0_17
                  have f3_17 := congrArg (fun q => Env.get q 3) he17
                  simp only [go_sem, Nat.reduceEqDiff, reduceIte, f3_16] at f3_17
                  have f4_17 := congrArg (fun q => Env.get q 4) he17
                  simp only [go_sem, Nat.reduceEqDiff, reduceIte, f4_16] at f4_17
                  have f5_17 := congrArg (fun q => Env.get q 5) he17
                  simp only [go_sem, Nat.reduceEqDiff, reduceIte, f5_16] at f5_17
                  have f7_17 := congrArg (fun q => Env.get q 7) he17
                  simp only [go_sem, Nat.reduceEqDiff, reduceIte, f7_16] at f7_17
                  have f48_17 := congrArg (fun q => Env.get q 48) he17
                  simp only [go_sem, Nat.reduceEqDiff, reduceIte] at f48_17
                  clear he17 f0_16 f3_16 f4_16 f5_16 f7_16
                  refine W.thenN ?_
                  refine W.cond f48_17 (fun hc18 => ?_) (fun hc18 => ?_)
                  · first
                    | (cases hc18; done)
                    | (exfalso; simp only [decide_eq_true_eq, decide_eq_false_iff_not, Bool.not_eq_true', Bool.not_eq_false', Bool.not_eq_eq_eq_not, Bool.not_true, Bool.not_false] at hc18; omega)
                    | (skip
                       try simp only [decide_eq_true_eq, decide_eq_false_iff_not, Bool.not_eq_true', Bool.not_eq_false', Bool.not_eq_eq_eq_not, Bool.not_true, Bool.not_false] at hc18
                       refine W.skip ?_
                       refine W.thenN ?_
                       refine W.seq ?_
                       refine W.block ?_
                       refine W.seq ?_
                       refine W.seq ?_
                       by_cases hr0 : r = 0
                       · skip
                         have hlt : r < (Un l).length := by omega
                         have hu := Un_mem_lt hlt
                         have hir := inRange_nat hlt
                         obtain ⟨b1, blk1, hae, hb1, hc1, hbl1⟩ := i1.at (i := r) (by rw [natl_len]; exact hlt)
                         rw [nat_natl _ r hlt] at hc1
                         have hg1 := (t.old b1 hbl1).trans hb1
                         have lt0 : ((((Un l).getD r 0 : Nat) : Int) < 0) = False := eq_false (by omega)
                         have ltn : ((l.length : Int) ≤ (((Un l).getD r 0 : Nat) : Int)) = False := eq_false (by omega)
                         have r0 : ((0 : Int) < (r : Int)) = False := eq_false (by omega)
                         refine W.drawA dr8_13 (fun A hA K hK => ?_)
                         have gd5 := guardAt hA (j := 5) (d := 56) rfl
                         have gd14 := guardAt hA (j := 14) (d := 65) rfl
                         have gd17 := guardAt hA (j := 17) (d := 68) rfl
                         clear hA
                         simp (config := { maxSteps := 10000000 }) only [go_sem, ↓forkQ_true, ↓forkQ_false, ↓guardQ_some, ↓resQ_val, ↓resQ_unit, ↓resQ_enter, ↓retQ_some, ↓resFQ_val, ↓resFQ_unit, ↓resFQ_enter, ↓retFQ_some, Nat.reduceEqDiff, reduceIte, Nat.reduceAdd, Nat.reduceMul, Nat.reduceSub, reduceCtorEq, Nat.reduceLeDiff, f0_17, f3_17, f4_17, f5_17, f7_17, f48_17, t10, t12, t14, t19, t21, hadd, hir, hae, hg1, hc1, lt0, ltn, r0, gd5, gd14, gd17]
                         repeat' (first | (refine W.forkP (fun hc19 => ?_) (fun hc19 => ?_) <;> simp (config := { maxSteps := 10000000 }) only [go_sem, ↓forkQ_true, ↓forkQ_false, ↓guardQ_some, ↓resQ_val, ↓resQ_unit, ↓resQ_enter, ↓retQ_some, ↓resFQ_val, ↓resFQ_unit, ↓resFQ_enter, ↓retFQ_some, Nat.reduceEqDiff, reduceIte, Nat.reduceAdd, Nat.reduceMul, Nat.reduceSub, reduceCtorEq, Nat.reduceLeDiff, f0_17, f3_17, f4_17, f5_17, f7_17, f48_17, t10, t12, t14, t19, t21, hadd, hir, hae, hg1, hc1, lt0, ltn, r0, gd5, gd14, gd17, hc19]) | (refine W.fork (fun hc19 => ?_) (fun hc19 => ?_) <;> simp (config := { maxSteps := 10000000 }) only [go_sem, ↓forkQ_true, ↓forkQ_false, ↓guardQ_some, ↓resQ_val, ↓resQ_unit, ↓resQ_enter, ↓retQ_some, ↓resFQ_val, ↓resFQ_unit, ↓resFQ_enter, ↓retFQ_some, Nat.reduceEqDiff, reduceIte, Nat.reduceAdd, Nat.reduceMul, Nat.reduceSub, reduceCtorEq, Nat.reduceLeDiff, f0_17, f3_17, f4_17, f5_17, f7_17, f48_17, t10, t12, t14, t19, t21, hadd, hir, hae, hg1, hc1, lt0, ltn, r0, gd5, gd14, gd17, hc19]))
                         all_goals
                           refine hK _ _ ?_
                           clear hK K A gd5 gd14 gd17
                           refine W.forget (fun e19 he19 => ?_)
                           have f0_19 := congrArg (fun q => Env.get q 0) he19
                           simp only [go_sem, Nat.reduceEqDiff, reduceIte, f0_17] at f0_19
                           have f3_19 := congrArg (fun q => Env.get q 3) he19
                           simp only [go_sem, Nat.reduceEqDiff, reduceIte, f3_17] at f3_19
                           have f4_19 := congrArg (fun q => Env.get q 4) he19
                           simp only [go_sem, Nat.reduceEqDiff, reduceIte, f4_17] at f4_19
                           have f5_19 := congrArg (fun q => Env.get q 5) he19
                           simp only [go_sem, Nat.reduceEqDiff, reduceIte, f5_17] at f5_19
                           have f7_19 := congrArg (fun q => Env.get q 7) he19
                           simp only [go_sem, Nat.reduceEqDiff, reduceIte, f7_17] at f7_19
                           have f80_19 := congrArg (fun q => Env.get q 80) he19
                           simp only [go_sem, Nat.reduceEqDiff, reduceIte] at f80_19
                           clear he19 f0_17 f3_17 f4_17 f5_17 f7_17 f48_17
                           refine W.thenN ?_
                           refine W.cond f80_19 (fun hc20 => ?_) (fun hc20 => ?_)
                           · first
                             | (cases hc20; done)
                             | (exfalso; simp only [decide_eq_true_eq, decide_eq_false_iff_not, Bool.not_eq_true', Bool.not_eq_false', Bool.not_eq_eq_eq_not, Bool.not_true, Bool.not_false] at hc20; omega)
                             | (skip
                                try simp only [decide_eq_true_eq, decide_eq_false_iff_not, Bool.not_eq_true', Bool.not_eq_false', Bool.not_eq_eq_eq_not, Bool.not_true, Bool.not_false] at hc20
                                refine W.seq ?_
                                refine W.region (fun K hK => ?_)
                                simp (config := { maxSteps := 10000000 }) only [go_sem, ↓forkQ_true, ↓forkQ_false, ↓guardQ_some, ↓resQ_val, ↓resQ_unit, ↓resQ_enter, ↓retQ_some, ↓resFQ_val, ↓resFQ_unit, ↓resFQ_enter, ↓retFQ_some, Nat.reduceEqDiff, reduceIte, Nat.reduceAdd, Nat.reduceMul, Nat.reduceSub, reduceCtorEq, Nat.reduceLeDiff, f0_19, f3_19, f4_19, f5_19, f7_19, f80_19, t10, t12, t14, t19, t21, hadd, hir, hae, hg1, hc1, lt0, ltn, r0]
                                refine hK _ _ ?_
                                clear hK K
                                refine W.forget (fun e21 he21 => ?_)
                                have f0_21 := congrArg (fun q => Env.get q 0) he21
                                simp only [go_sem, Nat.reduceEqDiff, reduceIte, f0_19] at f0_21
                                have f2_21 := congrArg (fun q => Env.get q 2) he21
                                simp only [go_sem, Nat.reduceEqDiff, reduceIte] at f2_21
                                have f3_21 := congrArg (fun q => Env.get q 3) he21
                                simp only [go_sem, Nat.reduceEqDiff, reduceIte, f3_19] at f3_21
                                have f4_21 := congrArg (fun q => Env.get q 4) he21
                                simp only [go_sem, Nat.reduceEqDiff, reduceIte, f4_19] at f4_21
                                have f5_21 := congrArg (fun q => Env.get q 5) he21
                                simp only [go_sem, Nat.reduceEqDiff, reduceIte, f5_19] at f5_21
                                have f7_21 := congrArg (fun q => Env.get q 7) he21
                                simp only [go_sem, Nat.reduceEqDiff, reduceIte, f7_19] at f7_21
                                clear he21 f0_19 f3_19 f4_19 f5_19 f7_19 f80_19
                                refine W.thenN ?_
                                refine W.ret ?_
                                refine W.thenR ?_
                                refine W.blockR ?_
                                refine W.thenR ?_
                                refine W.thenR ?_
                                refine W.blockR ?_
                                refine W.thenR ?_
                                rw [doneQ_ret]
                                exact ⟨[.bool true], by simp only [go_sem, ↓forkQ_true, ↓forkQ_false, ↓guardQ_some, ↓resQ_val, ↓resQ_unit, ↓resQ_enter, ↓retQ_some, ↓resFQ_val, ↓resFQ_unit, ↓resFQ_enter, ↓retFQ_some, Nat.reduceEqDiff, reduceIte, Nat.reduceAdd, Nat.reduceMul, Nat.reduceSub, reduceCtorEq, Nat.reduceLeDiff, f0_21, f2_21, f3_21, f4_21, f5_21, f7_21], rfl⟩)
                           · first
                             | (cases hc20; done)
                             | (exfalso; simp only [decide_eq_true_eq, decide_eq_false_iff_not, Bool.not_eq_true', Bool.not_eq_false', Bool.not_eq_eq_eq_not, Bool.not_true, Bool.not_false] at hc20; omega)
                             | (skip
                                try simp only [decide_eq_true_eq, decide_eq_false_iff_not, Bool.not_eq_true', Bool.not_eq_false', Bool.not_eq_eq_eq_not, Bool.not_true, Bool.not_false] at hc20
                                refine W.skip ?_
                                refine W.thenN ?_
                                refine W.draw dr8_15 (fun K hK => ?_)
                                have hiru := inRange_nat hu
                                have hb0' := (t.old b0 hbl).trans hb0
                                have cell := gcell2 (ext := ext) hu
                                have bl1 : ((Un l).getD r 0 * 3 + 2 + 1 ≤ (gcells M).length) = True := eq_true (by rw [gcells_len]; omega)
                                have p1 := put_hi M [] ((Un l).getD r 0) (by omega) (gt l ((Un l).getD r 0)).hi
                                rw [List.append_nil, List.append_nil] at p1
                                simp (config := { maxSteps := 10000000 }) only [go_sem, ↓forkQ_true, ↓forkQ_false, ↓guardQ_some, ↓resQ_val, ↓resQ_unit, ↓resQ_enter, ↓retQ_some, ↓resFQ_val, ↓resFQ_unit, ↓resFQ_enter, ↓retFQ_some, Nat.reduceEqDiff, reduceIte, Nat.reduceAdd, Nat.reduceMul, Nat.reduceSub, reduceCtorEq, Nat.reduceLeDiff, f0_19, f3_19, f4_19, f5_19, f7_19, f80_19, t10, t12, t14, t19, t21, hadd, hir, hae, hg1, hc1, lt0, ltn, r0, hiru, hb0', hcs, cell, gm, bl1, p1]
                                refine hK _ _ ?_
                                clear hK K
                                refine W.forget (fun e22 he22 => ?_)
                                refine W.forgetH (fun k9 hk22 => ?_)
                                have t9 := t.set (M' := M.set ((Un l).getD r 0) ⟨(gt M ((Un l).getD r 0)).x, (gt M ((Un l).getD r 0)).lo, (gt l ((Un l).getD r 0)).hi⟩) (by rw [List.length_set]; exact hml)
                                rw [← hk22] at t9
                                clear hk22
                                have f0_22 := congrArg (fun q => Env.get q 0) he22
                                simp only [go_sem, Nat.reduceEqDiff, reduceIte, f0_19] at f0_22
                                have f3_22 := congrArg (fun q => Env.get q 3) he22
                                simp only [go_sem, Nat.reduceEqDiff, reduceIte, f3_19] at f3_22
                                have f4_22 := congrArg (fun q => Env.get q 4) he22
                                simp only [go_sem, Nat.reduceEqDiff, reduceIte, f4_19] at f4_22
                                have f5_22 := congrArg (fun q => Env.get q 5) he22
                                simp only [go_sem, Nat.reduceEqDiff, reduceIte, f5_19] at f5_22
                                have f7_22 := congrArg (fun q => Env.get q 7) he22
                                simp only [go_sem, Nat.reduceEqDiff, reduceIte, f7_19] at f7_22
                                clear he22 f0_19 f3_19 f4_19 f5_19 f7_19 f80_19
                                refine W.blockN ?_
                                refine W.thenN ?_
                                refine W.region (fun K hK => ?_)
                                simp (config := { maxSteps := 10000000 }) only [go_sem, ↓forkQ_true, ↓forkQ_false, ↓guardQ_some, ↓resQ_val, ↓resQ_unit, ↓resQ_enter, ↓retQ_some, ↓resFQ_val, ↓resFQ_unit, ↓resFQ_enter, ↓retFQ_some, Nat.reduceEqDiff, reduceIte, Nat.reduceAdd, Nat.reduceMul, Nat.reduceSub, reduceCtorEq, Nat.reduceLeDiff, f0_22, f3_22, f4_22, f5_22, f7_22, t10, t12, t14, t19, t21, hadd, hir, hae, hg1, hc1, lt0, ltn, r0, hiru, hb0', hcs, cell, gm, bl1, p1]
                                refine hK _ _ ?_
                                clear hK K
                                refine W.forget (fun e23 he23 => ?_)
                                have f0_23 := congrArg (fun q => Env.get q 0) he23
                                simp only [go_sem, Nat.reduceEqDiff, reduceIte, f0_22] at f0_23
                                have f3_23 := congrArg (fun q => Env.get q 3) he23
                                simp only [go_sem, Nat.reduceEqDiff, reduceIte, f3_22] at f3_23
                                have f4_23 := congrArg (fun q => Env.get q 4) he23
                                simp only [go_sem, Nat.reduceEqDiff, reduceIte, f4_22] at f4_23
                                have f5_23 := congrArg (fun q => Env.get q 5) he23
                                simp only [go_sem, Nat.reduceEqDiff, reduceIte, f5_22] at f5_23
                                have f7_23 := congrArg (fun q => Env.get q 7) he23
                                simp only [go_sem, Nat.reduceEqDiff, reduceIte, f7_22] at f7_23
                                clear he23 f0_22 f3_22 f4_22 f5_22 f7_22
                                refine W.thenN ?_
                                exact ⟨(r + 1, _), by dsimp only; omega, ⟨t9, f0_23, f3_23, f4_23, f5_23⟩, f7_23, by dsimp only; omega, fun q hq => by
  dsimp only
  rw [gt_set _ _ _ (by omega), hi.m q hq, hi.m _ hu]
  by_cases e : (Un l).getD r 0 = q
  · subst e
    rw [if_pos rfl, if_pos ((take_mem hlt).2 (.inr rfl))]
  · rw [if_neg e]
    have hx : (q ∈ (Un l).take (r + 1)) = (q ∈ (Un l).take r) := propext ⟨fun hx => by rcases (take_mem hlt).1 hx with hx | hx; exact hx; exact absurd hx.symm e, fun hx => (take_mem hlt).2 (.inl hx)⟩
    simp only [hx]⟩)
                       · skip
                         have hlt : r < (Un l).length := by omega
                         have hu := Un_mem_lt hlt
                         have hir := inRange_nat hlt
                         obtain ⟨b1, blk1, hae, hb1, hc1, hbl1⟩ := i1.at (i := r) (by rw [natl_len]; exact hlt)
                         rw [nat_natl _ r hlt] at hc1
                         have hg1 := (t.old b1 hbl1).trans hb1
                         have lt0 : ((((Un l).getD r 0 : Nat) : Int) < 0) = False := eq_false (by omega)
                         have ltn : ((l.length : Int) ≤ (((Un l).getD r 0 : Nat) : Int)) = False := eq_false (by omega)
                         have r0 : ((0 : Int) < (r : Int)) = True := eq_true (by omega)
                         have w1 : wrapF .i64 ((r : Int) - 1) = ((r - 1 : Nat) : Int) := by rw [w64_in _ (by omega)]; omega
                         have hir2 := inRange_nat (show r - 1 < (Un l).length by omega)
                         obtain ⟨b2, blk2, hae2, hb2, hc2, hbl2⟩ := i1.at (i := r - 1) (by rw [natl_len]; omega)
                         rw [nat_natl _ (r - 1) (by omega)] at hc2
                         have hbb : b1 = b2 := by rw [hae] at hae2; cases hae2; rfl
                         subst hbb
                         have hbk : blk1 = blk2 := by rw [hb1] at hb2; exact Option.some.inj hb2
                         subst hbk
                         have inc := inc_of (stack_sorted o (His l)) (k := r - 1) (by show r - 1 + 1 < (Un l).length; omega)
                         rw [show r - 1 + 1 = r by omega] at inc
                         have cmp : ((((Un l).getD r 0 : Nat) : Int) ≤ (((Un l).getD (r - 1) 0 : Nat) : Int)) = False := eq_false (by have : (Un l).getD (r - 1) 0 < (Un l).getD r 0 := inc; omega)
                         refine W.drawA dr8_13 (fun A hA K hK => ?_)
                         have gd5 := guardAt hA (j := 5) (d := 56) rfl
                         have gd14 := guardAt hA (j := 14) (d := 65) rfl
                         have gd17 := guardAt hA (j := 17) (d := 68) rfl
                         clear hA
                         simp (config := { maxSteps := 10000000 }) only [go_sem, ↓forkQ_true, ↓forkQ_false, ↓guardQ_some, ↓resQ_val, ↓resQ_unit, ↓resQ_enter, ↓retQ_some, ↓resFQ_val, ↓resFQ_unit, ↓resFQ_enter, ↓retFQ_some, Nat.reduceEqDiff, reduceIte, Nat.reduceAdd, Nat.reduceMul, Nat.reduceSub, reduceCtorEq, Nat.reduceLeDiff, f0_17, f3_17, f4_17, f5_17, f7_17, f48_17, t10, t12, t14, t19, t21, hadd, hir, hae, hg1, hc1, lt0, ltn, r0, w1, hir2, hc2, cmp, gd5, gd14, gd17]
                         repeat' (first | (refine W.forkP (fun hc24 => ?_) (fun hc24 => ?_) <;> simp (config := { maxSteps := 10000000 }) only [go_sem, ↓forkQ_true, ↓forkQ_false, ↓guardQ_some, ↓resQ_val, ↓resQ_unit, ↓resQ_enter, ↓retQ_some, ↓resFQ_val, ↓resFQ_unit, ↓resFQ_enter, ↓retFQ_some, Nat.reduceEqDiff, reduceIte, Nat.reduceAdd, Nat.reduceMul, Nat.reduceSub, reduceCtorEq, Nat.reduceLeDiff, f0_17, f3_17, f4_17, f5_17, f7_17, f48_17, t10, t12, t14, t19, t21, hadd, hir, hae, hg1, hc1, lt0, ltn, r0, w1, hir2, hc2, cmp, gd5, gd14, gd17, hc24]) | (refine W.fork (fun hc24 => ?_) (fun hc24 => ?_) <;> simp (config := { maxSteps := 10000000 }) only [go_sem, ↓forkQ_true, ↓forkQ_false, ↓guardQ_some, ↓resQ_val, ↓resQ_unit, ↓resQ_enter, ↓retQ_some, ↓resFQ_val, ↓resFQ_unit, ↓resFQ_enter, ↓retFQ_some, Nat.reduceEqDiff, reduceIte, Nat.reduceAdd, Nat.reduceMul, Nat.reduceSub, reduceCtorEq, Nat.reduceLeDiff, f0_17, f3_17, f4_17, f5_17, f7_17, f48_17, t10, t12, t14, t19, t21, hadd, hir, hae, hg1, hc1, lt0, ltn, r0, w1, hir2, hc2, cmp, gd5, gd14, gd17, hc24]))
                         all_goals
                           refine hK _ _ ?_
                           clear hK K A gd5 gd14 gd17
                           refine W.forget (fun e24 he24 => ?_)
                           have f0_24 := congrArg (fun q => Env.get q 0) he24
                           simp only [go_sem, Nat.reduceEqDiff, reduceIte, f0_17] at f0_24
                           have f3_24 := congrArg (fun q => Env.get q 3) he24
                           simp only [go_sem, Nat.reduceEqDiff, reduceIte, f3_17] at f3_24
                           have f4_24 := congrArg (fun q => Env.get q 4) he24
                           simp only [go_sem, Nat.reduceEqDiff, reduceIte, f4_17] at f4_24
                           have f5_24 := congrArg (fun q => Env.get q 5) he24
                           simp only [go_sem, Nat.reduceEqDiff, reduceIte, f5_17] at f5_24
                           have f7_24 := congrArg (fun q => Env.get q 7) he24
                           simp only [go_sem, Nat.reduceEqDiff, reduceIte, f7_17] at f7_24
                           have f80_24 := congrArg (fun q => Env.get q 80) he24
                           simp only [go_sem, Nat.reduceEqDiff, reduceIte] at f80_24
                           clear he24 f0_17 f3_17 f4_17 f5_17 f7_17 f48_17
                           refine W.thenN ?_
                           refine W.cond f80_24 (fun hc25 => ?_) (fun hc25 => ?_)
                           · first
                             | (cases hc25; done)
                             | (exfalso; simp only [decide_eq_true_eq, decide_eq_false_iff_not, Bool.not_eq_true', Bool.not_eq_false', Bool.not_eq_eq_eq_not, Bool.not_true, Bool.not_false] at hc25; omega)
                             | (skip
                                try simp only [decide_eq_true_eq, decide_eq_false_iff_not, Bool.not_eq_true', Bool.not_eq_false', Bool.not_eq_eq_eq_not, Bool.not_true, Bool.not_false] at hc25
                                refine W.seq ?_
                                refine W.region (fun K hK => ?_)
                                simp (config := { maxSteps := 10000000 }) only [go_sem, ↓forkQ_true, ↓forkQ_false, ↓guardQ_some, ↓resQ_val, ↓resQ_unit, ↓resQ_enter, ↓retQ_some, ↓resFQ_val, ↓resFQ_unit, ↓resFQ_enter, ↓retFQ_some, Nat.reduceEqDiff, reduceIte, Nat.reduceAdd, Nat.reduceMul, Nat.reduceSub, reduceCtorEq, Nat.reduceLeDiff, f0_24, f3_24, f4_24, f5_24, f7_24, f80_24, t10, t12, t14, t19, t21, hadd, hir, hae, hg1, hc1, lt0, ltn, r0, w1, hir2, hc2, cmp]
                                refine hK _ _ ?_
                                clear hK K
                                refine W.forget (fun e26 he26 => ?_)
                                have f0_26 := congrArg (fun q => Env.get q 0) he26
                                simp only [go_sem, Nat.reduceEqDiff, reduceIte, f0_24] at f0_26
                                have f2_26 := congrArg (fun q => Env.get q 2) he26
                                simp only [go_sem, Nat.reduceEqDiff, reduceIte] at f2_26
                                have f3_26 := congrArg (fun q => Env.get q 3) he26
                                simp only [go_sem, Nat.reduceEqDiff, reduceIte, f3_24] at f3_26
                                have f4_26 := congrArg (fun q => Env.get q 4) he26
                                simp only [go_sem, Nat.reduceEqDiff, reduceIte, f4_24] at f4_26
                                have f5_26 := congrArg (fun q => Env.get q 5) he26
                                simp only [go_sem, Nat.reduceEqDiff, reduceIte, f5_24] at f5_26
                                have f7_26 := congrArg (fun q => Env.get q 7) he26
                                simp only [go_sem, Nat.reduceEqDiff, reduceIte, f7_24] at f7_26
                                clear he26 f0_24 f3_24 f4_24 f5_24 f7_24 f80_24
                                refine W.thenN ?_
                                refine W.ret ?_
                                refine W.thenR ?_
                                refine W.blockR ?_
                                refine W.thenR ?_
                                refine W.thenR ?_
                                refine W.blockR ?_
                                refine W.thenR ?_
                                rw [doneQ_ret]
                                exact ⟨[.bool true], by simp only [go_sem, ↓forkQ_true, ↓forkQ_false, ↓guardQ_some, ↓resQ_val, ↓resQ_unit, ↓resQ_enter, ↓retQ_some, ↓resFQ_val, ↓resFQ_unit, ↓resFQ_enter, ↓retFQ_some, Nat.reduceEqDiff, reduceIte, Nat.reduceAdd, Nat.reduceMul, Nat.reduceSub, reduceCtorEq, Nat.reduceLeDiff, f0_26, f2_26, f3_26, f4_26, f5_26, f7_26], rfl⟩)
                           · first
                             | (cases hc25; done)
                             | (exfalso; simp only [decide_eq_true_eq, decide_eq_false_iff_not, Bool.not_eq_true', Bool.not_eq_false', Bool.not_eq_eq_eq_not, Bool.not_true, Bool.not_false] at hc25; omega)
                             | (skip
                                try simp only [decide_eq_true_eq, decide_eq_false_iff_not, Bool.not_eq_true', Bool.not_eq_false', Bool.not_eq_eq_eq_not, Bool.not_true, Bool.not_false] at hc25
                                refine W.skip ?_
                                refine W.thenN ?_
                                refine W.draw dr8_15 (fun K hK => ?_)
                                have hiru := inRange_nat hu
                                have hb0' := (t.old b0 hbl).trans hb0
                                have cell := gcell2 (ext := ext) hu
                                have bl1 : ((Un l).getD r 0 * 3 + 2 + 1 ≤ (gcells M).length) = True := eq_true (by rw [gcells_len]; omega)
                                have p1 := put_hi M [] ((Un l).getD r 0) (by omega) (gt l ((Un l).getD r 0)).hi
                                rw [List.append_nil, List.append_nil] at p1
                                simp (config := { maxSteps := 10000000 }) only [go_sem, ↓forkQ_true, ↓forkQ_false, ↓guardQ_some, ↓resQ_val, ↓resQ_unit, ↓resQ_enter, ↓retQ_some, ↓resFQ_val, ↓resFQ_unit, ↓resFQ_enter, ↓retFQ_some, Nat.reduceEqDiff, reduceIte, Nat.reduceAdd, Nat.reduceMul, Nat.reduceSub, reduceCtorEq, Nat.reduceLeDiff, f0_24, f3_24, f4_24, f5_24, f7_24, f80_24, t10, t12, t14, t19, t21, hadd, hir, hae, hg1, hc1, lt0, ltn, r0, w1, hir2, hc2, cmp, hiru, hb0', hcs, cell, gm, bl1, p1]
                                refine hK _ _ ?_
                                clear hK K
                                refine W.forget (fun e27 he27 => ?_)
                                refine W.forgetH (fun k9 hk27 => ?_)
                                have t9 := t.set (M' := M.set ((Un l).getD r 0) ⟨(gt M ((Un l).getD r 0)).x, (gt M ((Un l).getD r 0)).lo, (gt l ((Un l).getD r 0)).hi⟩) (by rw [List.length_set]; exact hml)
                                rw [← hk27] at t9
                                clear hk27
                                have f0_27 := congrArg (fun q => Env.get q 0) he27
                                simp only [go_sem, Nat.reduceEqDiff, reduceIte, f0_24] at f0_27
                                have f3_27 := congrArg (fun q => Env.get q 3) he27
                                simp only [go_sem, Nat.reduceEqDiff, reduceIte, f3_24] at f3_27
                                have f4_27 := congrArg (fun q => Env.get q 4) he27
                                simp only [go_sem, Nat.reduceEqDiff, reduceIte, f4_24] at f4_27
                                have f5_27 := congrArg (fun q => Env.get q 5) he27
                                simp only [go_sem, Nat.reduceEqDiff, reduceIte, f5_24] at f5_27
                                have f7_27 := congrArg (fun q => Env.get q 7) he27
                                simp only [go_sem, Nat.reduceEqDiff, reduceIte, f7_24] at f7_27
                                clear he27 f0_24 f3_24 f4_24 f5_24 f7_24 f80_24
                                refine W.blockN ?_
                                refine W.thenN ?_
                                refine W.region (fun K hK => ?_)
                                simp (config := { maxSteps := 10000000 }) only [go_sem, ↓forkQ_true, ↓forkQ_false, ↓guardQ_some, ↓resQ_val, ↓resQ_unit, ↓resQ_enter, ↓retQ_some, ↓resFQ_val, ↓resFQ_unit, ↓resFQ_enter, ↓retFQ_some, Nat.reduceEqDiff, reduceIte, Nat.reduceAdd, Nat.reduceMul, Nat.reduceSub, reduceCtorEq, Nat.reduceLeDiff, f0_27, f3_27, f4_27, f5_27, f7_27, t10, t12, t14, t19, t21, hadd, hir, hae, hg1, hc1, lt0, ltn, r0, w1, hir2, hc2, cmp, hiru, hb0', hcs, cell, gm, bl1, p1]
                                refine hK _ _ ?_
                                clear hK K
                                refine W.forget (fun e28 he28 => ?_)
                                have f0_28 := congrArg (fun q => Env.get q 0) he28
                                simp only [go_sem, Nat.reduceEqDiff, reduceIte, f0_27] at f0_28
                                have f3_28 := congrArg (fun q => Env.get q 3) he28
                                simp only [go_sem, Nat.reduceEqDiff, reduceIte, f3_27] at f3_28
                                have f4_28 := congrArg (fun q => Env.get q 4) he28
                                simp only [go_sem, Nat.reduceEqDiff, reduceIte, f4_27] at f4_28
                                have f5_28 := congrArg (fun q => Env.get q 5) he28
                                simp only [go_sem, Nat.reduceEqDiff, reduceIte, f5_27] at f5_28
                                have f7_28 := congrArg (fun q => Env.get q 7) he28
                                simp only [go_sem, Nat.reduceEqDiff, reduceIte, f7_27] at f7_28
                                clear he28 f0_27 f3_27 f4_27 f5_27 f7_27
                                refine W.thenN ?_
                                exact ⟨(r + 1, _), by dsimp only; omega, ⟨t9, f0_28, f3_28, f4_28, f5_28⟩, f7_28, by dsimp only; omega, fun q hq => by
  dsimp only
  rw [gt_set _ _ _ (by omega), hi.m q hq, hi.m _ hu]
  by_cases e : (Un l).getD r 0 = q
  · subst e
    rw [if_pos rfl, if_pos ((take_mem hlt).2 (.inr rfl))]
  · rw [if_neg e]
    have hx : (q ∈ (Un l).take (r + 1)) = (q ∈ (Un l).take r) := propext ⟨fun hx => by rcases (take_mem hlt).1 hx with hx | hx; exact hx; exact absurd hx.symm e, fun hx => (take_mem hlt).2 (.inl hx)⟩
    simp only [hx]⟩))
                  · first
                    | (cases hc18; done)
                    | (exfalso; simp only [decide_eq_true_eq, decide_eq_false_iff_not, Bool.not_eq_true', Bool.not_eq_false', Bool.not_eq_eq_eq_not, Bool.not_true, Bool.not_false] at hc18; omega)
                    | (skip
                       try simp only [decide_eq_true_eq, decide_eq_false_iff_not, Bool.not_eq_true', Bool.not_eq_false', Bool.not_eq_eq_eq_not, Bool.not_true, Bool.not_false] at hc18
                       refine W.exit ?_
                       refine W.thenE ?_
                       refine W.thenE ?_
                       refine W.blockE ?_
                       refine W.thenN ?_
                       refine W.seq ?_
                       refine W.seq ?_
                       refine W.region (fun K hK => ?_)
                       simp (config := { maxSteps := 10000000 }) only [go_sem, ↓forkQ_true, ↓forkQ_false, ↓guardQ_some, ↓resQ_val, ↓resQ_unit, ↓resQ_enter, ↓retQ_some, ↓resFQ_val, ↓resFQ_unit, ↓resFQ_enter, ↓retFQ_some, Nat.reduceEqDiff, reduceIte, Nat.reduceAdd, Nat.reduceMul, Nat.reduceSub, reduceCtorEq, Nat.reduceLeDiff, f0_17, f3_17, f4_17, f5_17, f7_17, f48_17, t10, t12, t14, t19, t21]
                       refine hK _ _ ?_
                       clear hK K
                       refine W.forget (fun e29 he29 => ?_)
                       have f0_29 := congrArg (fun q => Env.get q 0) he29
                       simp only [go_sem, Nat.reduceEqDiff, reduceIte, f0_17] at f0_29
                       have f3_29 := congrArg (fun q => Env.get q 3) he29
                       simp only [go_sem, Nat.reduceEqDiff, reduceIte, f3_17] at f3_29
                       have f4_29 := congrArg (fun q => Env.get q 4) he29
                       simp only [go_sem, Nat.reduceEqDiff, reduceIte, f4_17] at f4_29
                       have f5_29 := congrArg (fun q => Env.get q 5) he29
                       simp only [go_sem, Nat.reduceEqDiff, reduceIte, f5_17] at f5_29
                       have f8_29 := congrArg (fun q => Env.get q 8) he29
                       simp only [go_sem, Nat.reduceEqDiff, reduceIte] at f8_29
                       clear he29 f0_17 f3_17 f4_17 f5_17 f7_17 f48_17
                       refine W.thenN ?_
                       refine W.block ?_
                       refine wq_rounds (fun s : Nat × List Gt => (Ln l).length - s.1) (fun s => I8c l (Un l) (Ln l) (some ⟨b0, 0, none⟩) a1 a2 c c1 c2 h k2 fl s.1 s.2) ?_ (0, M) _ _ ?_
                       · intro ⟨r, M⟩ e30 k1 hi
                         replace hi : I8c l (Un l) (Ln l) (some ⟨b0, 0, none⟩) a1 a2 c c1 c2 h k2 fl r M _ k1 := hi
                         have f0_30 := hi.e0
                         have f3_30 := hi.e3
                         have f4_30 := hi.e4
                         have f5_30 := hi.e5
                         have f8_30 := hi.e8
                         have ul := Un_len l
                         have ll := Ln_len l
                         have t := hi.t
                         have ex := t.ex
                         have hle := hi.le
                         have hml := t.len
                         have n2 := t.n2
                         have nx := t.nx
                         have hadd : wrapF .i64 ((r : Int) + 1) = ((r + 1 : Nat) : Int) := by rw [w64_in _ (by omega)]; omega
                         have gm := t.g
                         refine W.seq ?_
                         refine W.seq ?_
                         refine W.region (fun K hK => ?_)
                         simp (config := { maxSteps := 10000000 }) only [go_sem, ↓forkQ_true, ↓forkQ_false, ↓guardQ_some, ↓resQ_val, ↓resQ_unit, ↓resQ_enter, ↓retQ_some, ↓resFQ_val, ↓resFQ_unit, ↓resFQ_enter, ↓retFQ_some, Nat.reduceEqDiff, reduceIte, Nat.reduceAdd, Nat.reduceMul, Nat.reduceSub, reduceCtorEq, Nat.reduceLeDiff, f0_30, f3_30, f4_30, f5_30, f8_30, t10, t12, t14, t19, t21, hadd]
                         refine hK _ _ ?_
                         clear hK K
                         refine W.forget (fun e31 he31 => ?_)
                         have f0_31 := congrArg (fun q => Env.get q 0) he31
                         simp only [go_sem, Nat.reduceEqDiff, reduceIte, f0_30] at f0_31
                         have f3_31 := congrArg (fun q => Env.get q 3) he31
                         simp only [go_sem, Nat.reduceEqDiff, reduceIte, f3_30] at f3_31
                         have f4_31 := congrArg (fun q => Env.get q 4) he31
                         simp only [go_sem, Nat.reduceEqDiff, reduceIte, f4_30] at f4_31
                         have f5_31 := congrArg (fun q => Env.get q 5) he31
                         simp only [go_sem, Nat.reduceEqDiff, reduceIte, f5_30] at f5_31
                         have f8_31 := congrArg (fun q => Env.get q 8) he31
                         simp only [go_sem, Nat.reduceEqDiff, reduceIte, f8_30] at f8_31
                         have f99_31 := congrArg (fun q => Env.get q 99) he31
                         simp only [go_sem, Nat.reduceEqDiff, reduceIte] at f99_31
                         clear he31 f0_30 f3_30 f4_30 f5_30 f8_30
                         refine W.thenN ?_
                         refine W.cond f99_31 (fun hc32 => ?_) (fun hc32 => ?_)
                         · first
                           | (cases hc32; done)
                           | (exfalso; simp only [decide_eq_true_eq, decide_eq_false_iff_not, Bool.not_eq_true', Bool.not_eq_false', Bool.not_eq_eq_eq_not, Bool.not_true, Bool.not_false] at hc32; omega)
                           | (skip
                              try simp only [decide_eq_true_eq, decide_eq_false_iff_not, Bool.not_eq_true', Bool.not_eq_false', Bool.not_eq_eq_eq_not, Bool.not_true, Bool.not_false] at hc32
                              refine W.skip ?_
                              refine W.thenN ?_
                              refine W.seq ?_
                              refine W.block ?_
                              refine W.seq ?_
                              refine W.seq ?_
                              by_cases hr0 : r = 0
                              · skip
                                have hlt : r < (Ln l).length := by omega
                                have hu := Ln_mem_lt hlt
                                have hir := inRange_nat hlt
                                obtain ⟨b1, blk1, hae, hb1, hc1, hbl1⟩ := i2.at (i := r) (by rw [natl_len]; exact hlt)
                                rw [nat_natl _ r hlt] at hc1
                                have hg1 := (t.old b1 hbl1).trans hb1
                                have lt0 : ((((Ln l).getD r 0 : Nat) : Int) < 0) = False := eq_false (by omega)
                                have ltn : ((l.length : Int) ≤ (((Ln l).getD r 0 : Nat) : Int)) = False := eq_false (by omega)
                                have r0 : ((0 : Int) < (r : Int)) = False := eq_false (by omega)
                                refine W.drawA dr8_19 (fun A hA K hK => ?_)
                                have gd5 := guardAt hA (j := 5) (d := 107) rfl
                                have gd14 := guardAt hA (j := 14) (d := 116) rfl
                                have gd17 := guardAt hA (j := 17) (d := 119) rfl
                                clear hA
                                simp (config := { maxSteps := 10000000 }) only [go_sem, ↓forkQ_true, ↓forkQ_false, ↓guardQ_some, ↓resQ_val, ↓resQ_unit, ↓resQ_enter, ↓retQ_some, ↓resFQ_val, ↓resFQ_unit, ↓resFQ_enter, ↓retFQ_some, Nat.reduceEqDiff, reduceIte, Nat.reduceAdd, Nat.reduceMul, Nat.reduceSub, reduceCtorEq, Nat.reduceLeDiff, f0_31, f3_31, f4_31, f5_31, f8_31, f99_31, t10, t12, t14, t19, t21, hadd, hir, hae, hg1, hc1, lt0, ltn, r0, gd5, gd14, gd17]
                                repeat' (first | (refine W.forkP (fun hc33 => ?_) (fun hc33 => ?_) <;> simp (config := { maxSteps := 10000000 }) only [go_sem, ↓forkQ_true, ↓forkQ_false, ↓guardQ_some, ↓resQ_val, ↓resQ_unit, ↓resQ_enter, ↓retQ_some, ↓resFQ_val, ↓resFQ_unit, ↓resFQ_enter, ↓retFQ_some, Nat.reduceEqDiff, reduceIte, Nat.reduceAdd, Nat.reduceMul, Nat.reduceSub, reduceCtorEq, Nat.reduceLeDiff, f0_31, f3_31, f4_31, f5_31, f8_31, f99_31, t10, t12, t14, t19, t21, hadd, hir, hae, hg1, hc1, lt0, ltn, r0, gd5, gd14, gd17, hc33]) | (refine W.fork (fun hc33 => ?_) (fun hc33 => ?_) <;> simp (config := { maxSteps := 10000000 }) only [go_sem, ↓forkQ_true, ↓forkQ_false, ↓guardQ_some, ↓resQ_val, ↓resQ_unit, ↓resQ_enter, ↓retQ_some, ↓resFQ_val, ↓resFQ_unit, ↓resFQ_enter, ↓retFQ_some, Nat.reduceEqDiff, reduceIte, Nat.reduceAdd, Nat.reduceMul, Nat.reduceSub, reduceCtorEq, Nat.reduceLeDiff, f0_31, f3_31, f4_31, f5_31, f8_31, f99_31, t10, t12, t14, t19, t21, hadd, hir, hae, hg1, hc1, lt0, ltn, r0, gd5, gd14, gd17, hc33]))
                                all_goals
                                  refine hK _ _ ?_
                                  clear hK K A gd5 gd14 gd17
                                  refine W.forget (fun e33 he33 => ?_)
                                  have f0_33 := congrArg (fun q => Env.get q 0) he33
                                  simp only [go_sem, Nat.reduceEqDiff, reduceIte, f0_31] at f0_33
                                  have f3_33 := congrArg (fun q => Env.get q 3) he33
                                  simp only [go_sem, Nat.reduceEqDiff, reduceIte, f3_31] at f3_33
                                  have f4_33 := congrArg (fun q => Env.get q 4) he33
                                  simp only [go_sem, Nat.reduceEqDiff, reduceIte, f4_31] at f4_33
                                  have f5_33 := congrArg (fun q => Env.get q 5) he33
                                  simp only [go_sem, Nat.reduceEqDiff, reduceIte, f5_31] at f5_33
                                  have f8_33 := congrArg (fun q => Env.get q 8) he33
                                  simp only [go_sem, Nat.reduceEqDiff, reduceIte, f8_31] at f8_33
                                  have f131_33 := congrArg (fun q => Env.get q 131) he33
                                  simp only [go_sem, Nat.reduceEqDiff, reduceIte] at f131_33
                                  clear he33 f0_31 f3_31 f4_31 f5_31 f8_31 f99_31
                                  refine W.thenN ?_
                                  refine W.cond f131_33 (fun hc34 => ?_) (fun hc34 => ?_)
                                  · first
                                    | (cases hc34; done)
                                    | (exfalso; simp only [decide_eq_true_eq, decide_eq_false_iff_not, Bool.not_eq_true', Bool.not_eq_false', Bool.not_eq_eq_eq_not, Bool.not_true, Bool.not_false] at hc34; omega)
                                    | (skip
                                       try simp only [decide_eq_true_eq, decide_eq_false_iff_not, Bool.not_eq_true', Bool.not_eq_false', Bool.not_eq_eq_eq_not, Bool.not_true, Bool.not_false] at hc34
                                       refine W.seq ?_
                                       refine W.region (fun K hK => ?_)
                                       simp (config := { maxSteps := 10000000 }) only [go_sem, ↓forkQ_true, ↓forkQ_false, ↓guardQ_some, ↓resQ_val, ↓resQ_unit, ↓resQ_enter, ↓retQ_some, ↓resFQ_val, ↓resFQ_unit, ↓resFQ_enter, ↓retFQ_some, Nat.reduceEqDiff, reduceIte, Nat.reduceAdd, Nat.reduceMul, Nat.reduceSub, reduceCtorEq, Nat.reduceLeDiff, f0_33, f3_33, f4_33, f5_33, f8_33, f131_33, t10, t12, t14, t19, t21, hadd, hir, hae, hg1, hc1, lt0, ltn, r0]
                                       refine hK _ _ ?_
                                       clear hK K
                                       refine W.forget (fun e35 he35 => ?_)
                                       have f0_35 := congrArg (fun q => Env.get q 0) he35
                                       simp only [go_sem, Nat.reduceEqDiff, reduceIte, f0_33] at f0_35
                                       have f2_35 := congrArg (fun q => Env.get q 2) he35
                                       simp only [go_sem, Nat.reduceEqDiff, reduceIte] at f2_35
                                       have f3_35 := congrArg (fun q => Env.get q 3) he35
                                       simp only [go_sem, Nat.reduceEqDiff, reduceIte, f3_33] at f3_35
                                       have f4_35 := congrArg (fun q => Env.get q 4) he35
                                       simp only [go_sem, Nat.reduceEqDiff, reduceIte, f4_33] at f4_35
                                       have f5_35 := congrArg (fun q => Env.get q 5) he35
                                       simp only [go_sem, Nat.reduceEqDiff, reduceIte, f5_33] at f5_35
                                       have f8_35 := congrArg (fun q => Env.get q 8) he35
                                       simp only [go_sem, Nat.reduceEqDiff, reduceIte, f8_33] at f8_35
                                       clear he35 f0_33 f3_33 f4_33 f5_33 f8_33 f131_33
                                       refine W.thenN ?_
                                       refine W.ret ?_
                                       refine W.thenR ?_
                                       refine W.blockR ?_
                                       refine W.thenR ?_
                                       refine W.thenR ?_
                                       refine W.blockR ?_
                                       refine W.thenR ?_
                                       rw [doneQ_ret]
                                       exact ⟨[.bool true], by simp only [go_sem, ↓forkQ_true, ↓forkQ_false, ↓guardQ_some, ↓resQ_val, ↓resQ_unit, ↓resQ_enter, ↓retQ_some, ↓resFQ_val, ↓resFQ_unit, ↓resFQ_enter, ↓retFQ_some, Nat.reduceEqDiff, reduceIte, Nat.reduceAdd, Nat.reduceMul, Nat.reduceSub, reduceCtorEq, Nat.reduceLeDiff, f0_35, f2_35, f3_35, f4_35, f5_35, f8_35], rfl⟩)
                                  · first
                                    | (cases hc34; done)
                                    | (exfalso; simp only [decide_eq_true_eq, decide_eq_false_iff_not, Bool.not_eq_true', Bool.not_eq_false', Bool.not_eq_eq_eq_not, Bool.not_true, Bool.not_false] at hc34; omega)
                                    | (skip
                                       try simp only [decide_eq_true_eq, decide_eq_false_iff_not, Bool.not_eq_true', Bool.not_eq_false', Bool.not_eq_eq_eq_not, Bool.not_true, Bool.not_false] at hc34
                                       refine W.skip ?_
                                       refine W.thenN ?_
                                       refine W.draw dr8_21 (fun K hK => ?_)
                                       have hiru := inRange_nat hu
                                       have hb0' := (t.old b0 hbl).trans hb0
                                       have cell := gcell1 (ext := ext) hu
                                       have bl1 : ((Ln l).getD r 0 * 3 + 1 + 1 ≤ (gcells M).length) = True := eq_true (by rw [gcells_len]; omega)
                                       have p1 := put_lo M [] ((Ln l).getD r 0) (by omega) (gt l ((Ln l).getD r 0)).lo
                                       rw [List.append_nil, List.append_nil] at p1
                                       simp (config := { maxSteps := 10000000 }) only [go_sem, ↓forkQ_true, ↓forkQ_false, ↓guardQ_some, ↓resQ_val, ↓resQ_unit, ↓resQ_enter, ↓retQ_some, ↓resFQ_val, ↓resFQ_unit, ↓resFQ_enter, ↓retFQ_some, Nat.reduceEqDiff, reduceIte, Nat.reduceAdd, Nat.reduceMul, Nat.reduceSub, reduceCtorEq, Nat.reduceLeDiff, f0_33, f3_33, f4_33, f5_33, f8_33, f131_33, t10, t12, t14, t19, t21, hadd, hir, hae, hg1, hc1, lt0, ltn, r0, hiru, hb0', hcs, cell, gm, bl1, p1]
                                       refine hK _ _ ?_
                                       clear hK K
                                       refine W.forget (fun e36 he36 => ?_)
                                       refine W.forgetH (fun k9 hk36 => ?_)
                                       have t9 := t.set (M' := M.set ((Ln l).getD r 0) ⟨(gt M ((Ln l).getD r 0)).x, (gt l ((Ln l).getD r 0)).lo, (gt M ((Ln l).getD r 0)).hi⟩) (by rw [List.length_set]; exact hml)
                                       rw [← hk36] at t9
                                       clear hk36
                                       have f0_36 := congrArg (fun q => Env.get q 0) he36
                                       simp only [go_sem, Nat.reduceEqDiff, reduceIte, f0_33] at f0_36
                                       have f3_36 := congrArg (fun q => Env.get q 3) he36
                                       simp only [go_sem, Nat.reduceEqDiff, reduceIte, f3_33] at f3_36
                                       have f4_36 := congrArg (fun q => Env.get q 4) he36
                                       simp only [go_sem, Nat.reduceEqDiff, reduceIte, f4_33] at f4_36
                                       have f5_36 := congrArg (fun q => Env.get q 5) he36
                                       simp only [go_sem, Nat.reduceEqDiff, reduceIte, f5_33] at f5_36
                                       have f8_36 := congrArg (fun q => Env.get q 8) he36
                                       simp only [go_sem, Nat.reduceEqDiff, reduceIte, f8_33] at f8_36
                                       clear he36 f0_33 f3_33 f4_33 f5_33 f8_33 f131_33
                                       refine W.blockN ?_
                                       refine W.thenN ?_
                                       refine W.region (fun K hK => ?_)
                                       simp (config := { maxSteps := 10000000 }) only [go_sem, ↓forkQ_true, ↓forkQ_false, ↓guardQ_some, ↓resQ_val, ↓resQ_unit, ↓resQ_enter, ↓retQ_some, ↓resFQ_val, ↓resFQ_unit, ↓resFQ_enter, ↓retFQ_some, Nat.reduceEqDiff, reduceIte, Nat.reduceAdd, Nat.reduceMul, Nat.reduceSub, reduceCtorEq, Nat.reduceLeDiff, f0_36, f3_36, f4_36, f5_36, f8_36, t10, t12, t14, t19, t21, hadd, hir, hae, hg1, hc1, lt0, ltn, r0, hiru, hb0', hcs, cell, gm, bl1, p1]
                                       refine hK _ _ ?_
                                       clear hK K
                                       refine W.forget (fun e37 he37 => ?_)
                                       have f0_37 := congrArg (fun q => Env.get q 0) he37
                                       simp only [go_sem, Nat.reduceEqDiff, reduceIte, f0_36] at f0_37
                                       have f3_37 := congrArg (fun q => Env.get q 3) he37
                                       simp only [go_sem, Nat.reduceEqDiff, reduceIte, f3_36] at f3_37
                                       have f4_37 := congrArg (fun q => Env.get q 4) he37
                                       simp only [go_sem, Nat.reduceEqDiff, reduceIte, f4_36] at f4_37
                                       have f5_37 := congrArg (fun q => Env.get q 5) he37
                                       simp only [go_sem, Nat.reduceEqDiff, reduceIte, f5_36] at f5_37
                                       have f8_37 := congrArg (fun q => Env.get q 8) he37
                                       simp only [go_sem, Nat.reduceEqDiff, reduceIte, f8_36] at f8_37
                                       clear he37 f0_36 f3_36 f4_36 f5_36 f8_36
                                       refine W.thenN ?_
                                       exact ⟨(r + 1, _), by dsimp only; omega, ⟨t9, f0_37, f3_37, f4_37, f5_37⟩, f8_37, by dsimp only; omega, fun q hq => by
  dsimp only
  rw [gt_set _ _ _ (by omega), hi.m q hq, hi.m _ hu]
  by_cases e : (Ln l).getD r 0 = q
  · subst e
    rw [if_pos rfl, if_pos ((take_mem hlt).2 (.inr rfl))]
  · rw [if_neg e]
    have hx : (q ∈ (Ln l).take (r + 1)) = (q ∈ (Ln l).take r) := propext ⟨fun hx => by rcases (take_mem hlt).1 hx with hx | hx; exact hx; exact absurd hx.symm e, fun hx => (take_mem hlt).2 (.inl hx)⟩
    simp only [hx]⟩)
                              · skip
                                have hlt : r < (Ln l).length := by omega
                                have hu := Ln_mem_lt hlt
                                have hir := inRange_nat hlt
                                obtain ⟨b1, blk1, hae, hb1, hc1, hbl1⟩ := i2.at (i := r) (by rw [natl_len]; exact hlt)
                                rw [nat_natl _ r hlt] at hc1
                                have hg1 := (t.old b1 hbl1).trans hb1
                                have lt0 : ((((Ln l).getD r 0 : Nat) : Int) < 0) = False := eq_false (by omega)
                                have ltn : ((l.length : Int) ≤ (((Ln l).getD r 0 : Nat) : Int)) = False := eq_false (by omega)
                                have r0 : ((0 : Int) < (r : Int)) = True := eq_true (by omega)
                                have w1 : wrapF .i64 ((r : Int) - 1) = ((r - 1 : Nat) : Int) := by rw [w64_in _ (by omega)]; omega
                                have hir2 := inRange_nat (show r - 1 < (Ln l).length by omega)
                                obtain ⟨b2, blk2, hae2, hb2, hc2, hbl2⟩ := i2.at (i := r - 1) (by rw [natl_len]; omega)
                                rw [nat_natl _ (r - 1) (by omega)] at hc2
                                have hbb : b1 = b2 := by rw [hae] at hae2; cases hae2; rfl
                                subst hbb
                                have hbk : blk1 = blk2 := by rw [hb1] at hb2; exact Option.some.inj hb2
                                subst hbk
                                have inc := inc_of (stack_sorted o (Los l)) (k := r - 1) (by show r - 1 + 1 < (Ln l).length; omega)
                                rw [show r - 1 + 1 = r by omega] at inc
                                have cmp : ((((Ln l).getD r 0 : Nat) : Int) ≤ (((Ln l).getD (r - 1) 0 : Nat) : Int)) = False := eq_false (by have : (Ln l).getD (r - 1) 0 < (Ln l).getD r 0 := inc; omega)
                                refine W.drawA dr8_19 (fun A hA K hK => ?_)
                                have gd5 := guardAt hA (j := 5) (d := 107) rfl
                                have gd14 := guardAt hA (j := 14) (d := 116) rfl
                                have gd17 := guardAt hA (j := 17) (d := 119) rfl
                                clear hA
                                simp (config := { maxSteps := 10000000 }) only [go_sem, ↓forkQ_true, ↓forkQ_false, ↓guardQ_some, ↓resQ_val, ↓resQ_unit, ↓resQ_enter, ↓retQ_some, ↓resFQ_val, ↓resFQ_unit, ↓resFQ_enter, ↓retFQ_some, Nat.reduceEqDiff, reduceIte, Nat.reduceAdd, Nat.reduceMul, Nat.reduceSub, reduceCtorEq, Nat.reduceLeDiff, f0_31, f3_31, f4_31, f5_31, f8_31, f99_31, t10, t12, t14, t19, t21, hadd, hir, hae, hg1, hc1, lt0, ltn, r0, w1, hir2, hc2, cmp, gd5, gd14, gd17]
                                repeat' (first | (refine W.forkP (fun hc38 => ?_) (fun hc38 => ?_) <;> simp (config := { maxSteps := 10000000 }) only [go_sem, ↓forkQ_true, ↓forkQ_false, ↓guardQ_some, ↓resQ_val, ↓resQ_unit, ↓resQ_enter, ↓retQ_some, ↓resFQ_val, ↓resFQ_unit, ↓resFQ_enter, ↓retFQ_some, Nat.reduceEqDiff, reduceIte, Nat.reduceAdd, Nat.reduceMul, Nat.reduceSub, reduceCtorEq, Nat.reduceLeDiff, f0_31, f3_31, f4_31, f5_31, f8_31, f99_31, t10, t12, t14, t19, t21, hadd, hir, hae, hg1, hc1, lt0, ltn, r0, w1, hir2, hc2, cmp, gd5, gd14, gd17, hc38]) | (refine W.fork (fun hc38 => ?_) (fun hc38 => ?_) <;> simp (config := { maxSteps := 10000000 }) only [go_sem, ↓forkQ_true, ↓forkQ_false, ↓guardQ_some, ↓resQ_val, ↓resQ_unit, ↓resQ_enter, ↓retQ_some, ↓resFQ_val, ↓resFQ_unit, ↓resFQ_enter, ↓retFQ_some, Nat.reduceEqDiff, reduceIte, Nat.reduceAdd, Nat.reduceMul, Nat.reduceSub, reduceCtorEq, Nat.reduceLeDiff, f0_31, f3_31, f4_31, f5_31, f8_31, f99_31, t10, t12, t14, t19, t21, hadd, hir, hae, hg1, hc1, lt0, ltn, r0, w1, hir2, hc2, cmp, gd5, gd14, gd17, hc38]))
                                all_goals
                                  refine hK _ _ ?_
                                  clear hK K A gd5 gd14 gd17
                                  refine W.forget (fun e38 he38 => ?_)
                                  have f0_38 := congrArg (fun q => Env.get q 0) he38
                                  simp only [go_sem, Nat.reduceEqDiff, reduceIte, f0_31] at f0_38
                                  have f3_38 := congrArg (fun q => Env.get q 3) he38
                                  simp only [go_sem, Nat.reduceEqDiff, reduceIte, f3_31] at f3_38
                                  have f4_38 := congrArg (fun q => Env.get q 4) he38
                                  simp only [go_sem, Nat.reduceEqDiff, reduceIte, f4_31] at f4_38
                                  have f5_38 := congrArg (fun q => Env.get q 5) he38
                                  simp only [go_sem, Nat.reduceEqDiff, reduceIte, f5_31] at f5_38
                                  have f8_38 := congrArg (fun q => Env.get q 8) he38
                                  simp only [go_sem, Nat.reduceEqDiff, reduceIte, f8_31] at f8_38
                                  have f131_38 := congrArg (fun q => Env.get q 131) he38
                                  simp only [go_sem, Nat.reduceEqDiff, reduceIte] at f131_38
                                  clear he38 f0_31 f3_31 f4_31 f5_31 f8_31 f99_31
                                  refine W.thenN ?_
                                  refine W.cond f131_38 (fun hc39 => ?_) (fun hc39 => ?_)
                                  · first
                                    | (cases hc39; done)
                                    | (exfalso; simp only [decide_eq_true_eq, decide_eq_false_iff_not, Bool.not_eq_true', Bool.not_eq_false', Bool.not_eq_eq_eq_not, Bool.not_true, Bool.not_false] at hc39; omega)
                                    | (skip
                                       try simp only [decide_eq_true_eq, decide_eq_false_iff_not, Bool.not_eq_true', Bool.not_eq_false', Bool.not_eq_eq_eq_not, Bool.not_true, Bool.not_false] at hc39
                                       refine W.seq ?_
                                       refine W.region (fun K hK => ?_)
                                       simp (config := { maxSteps := 10000000 }) only [go_sem, ↓forkQ_true, ↓forkQ_false, ↓guardQ_some, ↓resQ_val, ↓resQ_unit, ↓resQ_enter, ↓retQ_some, ↓resFQ_val, ↓resFQ_unit, ↓resFQ_enter, ↓retFQ_some, Nat.reduceEqDiff, reduceIte, Nat.reduceAdd, Nat.reduceMul, Nat.reduceSub, reduceCtorEq, Nat.reduceLeDiff, f0_38, f3_38, f4_38, f5_38, f8_38, f131_38, t10, t12, t14, t19, t21, hadd, hir, hae, hg1, hc1, lt0, ltn, r0, w1, hir2, hc2, cmp]
                                       refine hK _ _ ?_
                                       clear hK K
                                       refine W.forget (fun e40 he40 => ?_)
                                       have f0_40 := congrArg (fun q => Env.get q 0) he40
                                       simp only [go_sem, Nat.reduceEqDiff, reduceIte, f0_38] at f0_40
                                       have f2_40 := congrArg (fun q => Env.get q 2) he40
                                       simp only [go_sem, Nat.reduceEqDiff, reduceIte] at f2_40
                                       have f3_40 := congrArg (fun q => Env.get q 3) he40
                                       simp only [go_sem, Nat.reduceEqDiff, reduceIte, f3_38] at f3_40
                                       have f4_40 := congrArg (fun q => Env.get q 4) he40
                                       simp only [go_sem, Nat.reduceEqDiff, reduceIte, f4_38] at f4_40
                                       have f5_40 := congrArg (fun q => Env.get q 5) he40
                                       simp only [go_sem, Nat.reduceEqDiff, reduceIte, f5_38] at f5_40
                                       have f8_40 := congrArg (fun q => Env.get q 8) he40
                                       simp only [go_sem, Nat.reduceEqDiff, reduceIte, f8_38] at f8_40
                                       clear he40 f0_38 f3_38 f4_38 f5_38 f8_38 f131_38
                                       refine W.thenN ?_
                                       refine W.ret ?_
                                       refine W.thenR ?_
                                       refine W.blockR ?_
                                       refine W.thenR ?_
                                       refine W.thenR ?_
                                       refine W.blockR ?_
                                       refine W.thenR ?_
                                       rw [doneQ_ret]
                                       exact ⟨[.bool true], by simp only [go_sem, ↓forkQ_true, ↓forkQ_false, ↓guardQ_some, ↓resQ_val, ↓resQ_unit, ↓resQ_enter, ↓retQ_some, ↓resFQ_val, ↓resFQ_unit, ↓resFQ_enter, ↓retFQ_some, Nat.reduceEqDiff, reduceIte, Nat.reduceAdd, Nat.reduceMul, Nat.reduceSub, reduceCtorEq, Nat.reduceLeDiff, f0_40, f2_40, f3_40, f4_40, f5_40, f8_40], rfl⟩)
                                  · first
                                    | (cases hc39; done)
                                    | (exfalso; simp only [decide_eq_true_eq, decide_eq_false_iff_not, Bool.not_eq_true', Bool.not_eq_false', Bool.not_eq_eq_eq_not, Bool.not_true, Bool.not_false] at hc39; omega)
                                    | (skip
                                       try simp only [decide_eq_true_eq, decide_eq_false_iff_not, Bool.not_eq_true', Bool.not_eq_false', Bool.not_eq_eq_eq_not, Bool.not_true, Bool.not_false] at hc39
                                       refine W.skip ?_
                                       refine W.thenN ?_
                                       refine W.draw dr8_21 (fun K hK => ?_)
                                       have hiru := inRange_nat hu
                                       have hb0' := (t.old b0 hbl).trans hb0
                                       have cell := gcell1 (ext := ext) hu
                                       have bl1 : ((Ln l).getD r 0 * 3 + 1 + 1 ≤ (gcells M).length) = True := eq_true (by rw [gcells_len]; omega)
                                       have p1 := put_lo M [] ((Ln l).getD r 0) (by omega) (gt l ((Ln l).getD r 0)).lo
                                       rw [List.append_nil, List.append_nil] at p1
                                       simp (config := { maxSteps := 10000000 }) only [go_sem, ↓forkQ_true, ↓forkQ_false, ↓guardQ_some, ↓resQ_val, ↓resQ_unit, ↓resQ_enter, ↓retQ_some, ↓resFQ_val, ↓resFQ_unit, ↓resFQ_enter, ↓retFQ_some, Nat.reduceEqDiff, reduceIte, Nat.reduceAdd, Nat.reduceMul, Nat.reduceSub, reduceCtorEq, Nat.reduceLeDiff, f0_38, f3_38, f4_38, f5_38, f8_38, f131_38, t10, t12, t14, t19, t21, hadd, hir, hae, hg1, hc1, lt0, ltn, r0, w1, hir2, hc2, cmp, hiru, hb0', hcs, cell, gm, bl1, p1]
                                       refine hK _ _ ?_
                                       clear hK K
                                       refine W.forget (fun e41 he41 => ?_)
                                       refine W.forgetH (fun k9 hk41 => ?_)
                                       have t9 := t.set (M' := M.set ((Ln l).getD r 0) ⟨(gt M ((Ln l).getD r 0)).x, (gt l ((Ln l).getD r 0)).lo, (gt M ((Ln l).getD r 0)).hi⟩) (by rw [List.length_set]; exact hml)
                                       rw [← hk41] at t9
                                       clear hk41
                                       have f0_41 := congrArg (fun q => Env.get q 0) he41
                                       simp only [go_sem, Nat.reduceEqDiff, reduceIte, f0_38] at f0_41
                                       have f3_41 := congrArg (fun q => Env.get q 3) he41
                                       simp only [go_sem, Nat.reduceEqDiff, reduceIte, f3_38] at f3_41
                                       have f4_41 := congrArg (fun q => Env.get q 4) he41
                                       simp only [go_sem, Nat.reduceEqDiff, reduceIte, f4_38] at f4_41
                                       have f5_41 := congrArg (fun q => Env.get q 5) he41
                                       simp only [go_sem, Nat.reduceEqDiff, reduceIte, f5_38] at f5_41
                                       have f8_41 := congrArg (fun q => Env.get q 8) he41
                                       simp only [go_sem, Nat.reduceEqDiff, reduceIte, f8_38] at f8_41
                                       clear he41 f0_38 f3_38 f4_38 f5_38 f8_38 f131_38
                                       refine W.blockN ?_
                                       refine W.thenN ?_
                                       refine W.region (fun K hK => ?_)
                                       simp (config := { maxSteps := 10000000 }) only [go_sem, ↓forkQ_true, ↓forkQ_false, ↓guardQ_some, ↓resQ_val, ↓resQ_unit, ↓resQ_enter, ↓retQ_some, ↓resFQ_val, ↓resFQ_unit, ↓resFQ_enter, ↓retFQ_some, Nat.reduceEqDiff, reduceIte, Nat.reduceAdd, Nat.reduceMul, Nat.reduceSub, reduceCtorEq, Nat.reduceLeDiff, f0_41, f3_41, f4_41, f5_41, f8_41, t10, t12, t14, t19, t21, hadd, hir, hae, hg1, hc1, lt0, ltn, r0, w1, hir2, hc2, cmp, hiru, hb0', hcs, cell, gm, bl1, p1]
                                       refine hK _ _ ?_
                                       clear hK K
                                       refine W.forget (fun e42 he42 => ?_)
                                       have f0_42 := congrArg (fun q => Env.get q 0) he42
                                       simp only [go_sem, Nat.reduceEqDiff, reduceIte, f0_41] at f0_42
                                       have f3_42 := congrArg (fun q => Env.get q 3) he42
                                       simp only [go_sem, Nat.reduceEqDiff, reduceIte, f3_41] at f3_42
                                       have f4_42 := congrArg (fun q => Env.get q 4) he42
                                       simp only [go_sem, Nat.reduceEqDiff, reduceIte, f4_41] at f4_42
                                       have f5_42 := congrArg (fun q => Env.get q 5) he42
                                       simp only [go_sem, Nat.reduceEqDiff, reduceIte, f5_41] at f5_42
                                       have f8_42 := congrArg (fun q => Env.get q 8) he42
                                       simp only [go_sem, Nat.reduceEqDiff, reduceIte, f8_41] at f8_42
                                       clear he42 f0_41 f3_41 f4_41 f5_41 f8_41
                                       refine W.thenN ?_
                                       exact ⟨(r + 1, _), by dsimp only; omega, ⟨t9, f0_42, f3_42, f4_42, f5_42⟩, f8_42, by dsimp only; omega, fun q hq => by
  dsimp only
  rw [gt_set _ _ _ (by omega), hi.m q hq, hi.m _ hu]
  by_cases e : (Ln l).getD r 0 = q
  · subst e
    rw [if_pos rfl, if_pos ((take_mem hlt).2 (.inr rfl))]
  · rw [if_neg e]
    have hx : (q ∈ (Ln l).take (r + 1)) = (q ∈ (Ln l).take r) := propext ⟨fun hx => by rcases (take_mem hlt).1 hx with hx | hx; exact hx; exact absurd hx.symm e, fun hx => (take_mem hlt).2 (.inl hx)⟩
    simp only [hx]⟩))
                         · first
                           | (cases hc32; done)
                           | (exfalso; simp only [decide_eq_true_eq, decide_eq_false_iff_not, Bool.not_eq_true', Bool.not_eq_false', Bool.not_eq_eq_eq_not, Bool.not_true, Bool.not_false] at hc32; omega)
                           | (skip
                              try simp only [decide_eq_true_eq, decide_eq_false_iff_not, Bool.not_eq_true', Bool.not_eq_false', Bool.not_eq_eq_eq_not, Bool.not_true, Bool.not_false] at hc32
                              refine W.exit ?_
                              refine W.thenE ?_
                              refine W.thenE ?_
                              refine W.blockE ?_
                              refine W.thenN ?_
                              refine W.seq ?_
                              refine W.seq ?_
                              refine W.regionA (fun A hA K hK => ?_)
                              have gd3 := guardAt hA (j := 3) (d := 150) rfl
                              have gd8 := guardAt hA (j := 8) (d := 155) rfl
                              have gd14 := guardAt hA (j := 14) (d := 161) rfl
                              have gd20 := guardAt hA (j := 20) (d := 167) rfl
                              have gd32 := guardAt hA (j := 32) (d := 179) rfl
                              clear hA
                              obtain rfl : r = (Ln l).length := by omega
                              have hm := hi.m
                              rw [List.take_length] at hm
                              have oM : Ok M ∧ ∀ p q, 0 < q → (AllFe l p q ↔ AllFe M p q) := m_ok o hml hm
                              have hsl := sl_same o oM.1 hml oM.2
                              obtain ⟨u1, u2, u3⟩ := ends_of (stack_sorted o (His l)) o.pos (Un_mem.2 (stack_first o.lt o.pos)) (Un_mem.2 (stack_last o.lt o.pos)) Un_lt
                              obtain ⟨v1, v2, v3⟩ := ends_of (stack_sorted o (Los l)) o.pos (Ln_mem.2 (stack_first o.lt o.pos)) (Ln_mem.2 (stack_last o.lt o.pos)) Ln_lt
                              change 0 < (Un l).length at u1
                              change (Un l).getD 0 0 = 0 at u2
                              change (Un l).getD ((Un l).length - 1) 0 = l.length - 1 at u3
                              change 0 < (Ln l).length at v1
                              change (Ln l).getD 0 0 = 0 at v2
                              change (Ln l).getD ((Ln l).length - 1) 0 = l.length - 1 at v3
                              have ul := Un_len l
                              have ll := Ln_len l
                              have z1 : (((Un l).length : Int) = 0) = False := eq_false (by omega)
                              have z2 : (((Ln l).length : Int) = 0) = False := eq_false (by omega)
                              obtain ⟨b1, blk1, hae, hb1, hc1, hbl1⟩ := i1.at (i := 0) (by rw [natl_len]; exact u1)
                              rw [nat_natl _ 0 u1, u2] at hc1
                              have hg1 := (t.old b1 hbl1).trans hb1
                              obtain ⟨b2, blk2, hae2, hb2, hc2, hbl2⟩ := i2.at (i := 0) (by rw [natl_len]; exact v1)
                              rw [nat_natl _ 0 v1, v2] at hc2
                              have hg2 := (t.old b2 hbl2).trans hb2
                              obtain ⟨b3, blk3, hae3, hb3, hc3, hbl3⟩ := i1.at (i := (Un l).length - 1) (by rw [natl_len]; omega)
                              rw [nat_natl _ _ (by omega), u3] at hc3
                              obtain rfl : b1 = b3 := by rw [hae] at hae3; cases hae3; rfl
                              obtain rfl : blk1 = blk3 := by rw [hb1] at hb3; exact Option.some.inj hb3
                              obtain ⟨b4, blk4, hae4, hb4, hc4, hbl4⟩ := i2.at (i := (Ln l).length - 1) (by rw [natl_len]; omega)
                              rw [nat_natl _ _ (by omega), v3] at hc4
                              obtain rfl : b2 = b4 := by rw [hae2] at hae4; cases hae4; rfl
                              obtain rfl : blk2 = blk4 := by rw [hb2] at hb4; exact Option.some.inj hb4
                              have ir1 : inRange (0 : Int) (Un l).length = true := inRange_nat (i := 0) u1
                              have ir2 : inRange (0 : Int) (Ln l).length = true := inRange_nat (i := 0) v1
                              have w1 : wrapF .i64 (((Un l).length : Int) - 1) = (((Un l).length - 1 : Nat) : Int) := by rw [w64_in _ (by omega)]; omega
                              have w2 : wrapF .i64 (((Ln l).length : Int) - 1) = (((Ln l).length - 1 : Nat) : Int) := by rw [w64_in _ (by omega)]; omega
                              have w3 : wrapF .i64 ((l.length : Int) - 1) = ((l.length - 1 : Nat) : Int) := by have := o.pos; rw [w64_in _ (by omega)]; omega
                              have ir3 := inRange_nat (show (Un l).length - 1 < (Un l).length by omega)
                              have ir4 := inRange_nat (show (Ln l).length - 1 < (Ln l).length by omega)
                              have tz : (0 : Int).toNat = 0 := rfl
                              have cz : ((0 : Nat) : Int) = 0 := rfl
                              simp (config := { maxSteps := 10000000 }) only [go_sem, ↓forkQ_true, ↓forkQ_false, ↓guardQ_some, ↓resQ_val, ↓resQ_unit, ↓resQ_enter, ↓retQ_some, ↓resFQ_val, ↓resFQ_unit, ↓resFQ_enter, ↓retFQ_some, Nat.reduceEqDiff, reduceIte, Nat.reduceAdd, Nat.reduceMul, Nat.reduceSub, reduceCtorEq, Nat.reduceLeDiff, f0_31, f3_31, f4_31, f5_31, f8_31, f99_31, t10, t12, t14, t19, t21, z1, z2, hae, hg1, hc1, hae2, hg2, hc2, hc3, hc4, ir1, ir2, w1, w2, w3, ir3, ir4, tz, cz, Nat.zero_mul, gd3, gd8, gd14, gd20, gd32]
                              repeat' (first | (refine W.forkP (fun hc43 => ?_) (fun hc43 => ?_) <;> simp (config := { maxSteps := 10000000 }) only [go_sem, ↓forkQ_true, ↓forkQ_false, ↓guardQ_some, ↓resQ_val, ↓resQ_unit, ↓resQ_enter, ↓retQ_some, ↓resFQ_val, ↓resFQ_unit, ↓resFQ_enter, ↓retFQ_some, Nat.reduceEqDiff, reduceIte, Nat.reduceAdd, Nat.reduceMul, Nat.reduceSub, reduceCtorEq, Nat.reduceLeDiff, f0_31, f3_31, f4_31, f5_31, f8_31, f99_31, t10, t12, t14, t19, t21, z1, z2, hae, hg1, hc1, hae2, hg2, hc2, hc3, hc4, ir1, ir2, w1, w2, w3, ir3, ir4, tz, cz, Nat.zero_mul, gd3, gd8, gd14, gd20, gd32, hc43]) | (refine W.fork (fun hc43 => ?_) (fun hc43 => ?_) <;> simp (config := { maxSteps := 10000000 }) only [go_sem, ↓forkQ_true, ↓forkQ_false, ↓guardQ_some, ↓resQ_val, ↓resQ_unit, ↓resQ_enter, ↓retQ_some, ↓resFQ_val, ↓resFQ_unit, ↓resFQ_enter, ↓retFQ_some, Nat.reduceEqDiff, reduceIte, Nat.reduceAdd, Nat.reduceMul, Nat.reduceSub, reduceCtorEq, Nat.reduceLeDiff, f0_31, f3_31, f4_31, f5_31, f8_31, f99_31, t10, t12, t14, t19, t21, z1, z2, hae, hg1, hc1, hae2, hg2, hc2, hc3, hc4, ir1, ir2, w1, w2, w3, ir3, ir4, tz, cz, Nat.zero_mul, gd3, gd8, gd14, gd20, gd32, hc43]))
                              all_goals
                                refine hK _ _ ?_
                                clear hK K A gd3 gd8 gd14 gd20 gd32
                                refine W.forget (fun e43 he43 => ?_)
                                have f0_43 := congrArg (fun q => Env.get q 0) he43
                                simp only [go_sem, Nat.reduceEqDiff, reduceIte, f0_31] at f0_43
                                have f5_43 := congrArg (fun q => Env.get q 5) he43
                                simp only [go_sem, Nat.reduceEqDiff, reduceIte, f5_31] at f5_43
                                have f190_43 := congrArg (fun q => Env.get q 190) he43
                                simp only [go_sem, Nat.reduceEqDiff, reduceIte] at f190_43
                                clear he43 f0_31 f3_31 f4_31 f5_31 f8_31 f99_31
                                refine W.thenN ?_
                                refine W.cond f190_43 (fun hc44 => ?_) (fun hc44 => ?_)
                                · first
                                  | (cases hc44; done)
                                  | (exfalso; simp only [decide_eq_true_eq, decide_eq_false_iff_not, Bool.not_eq_true', Bool.not_eq_false', Bool.not_eq_eq_eq_not, Bool.not_true, Bool.not_false] at hc44; omega)
                                  | (skip
                                     try simp only [decide_eq_true_eq, decide_eq_false_iff_not, Bool.not_eq_true', Bool.not_eq_false', Bool.not_eq_eq_eq_not, Bool.not_true, Bool.not_false] at hc44
                                     refine W.seq ?_
                                     refine W.region (fun K hK => ?_)
                                     simp (config := { maxSteps := 10000000 }) only [go_sem, ↓forkQ_true, ↓forkQ_false, ↓guardQ_some, ↓resQ_val, ↓resQ_unit, ↓resQ_enter, ↓retQ_some, ↓resFQ_val, ↓resFQ_unit, ↓resFQ_enter, ↓retFQ_some, Nat.reduceEqDiff, reduceIte, Nat.reduceAdd, Nat.reduceMul, Nat.reduceSub, reduceCtorEq, Nat.reduceLeDiff, f0_43, f5_43, f190_43, t10, t12, t14, t19, t21, z1, z2, hae, hg1, hc1, hae2, hg2, hc2, hc3, hc4, ir1, ir2, w1, w2, w3, ir3, ir4, tz, cz, Nat.zero_mul]
                                     refine hK _ _ ?_
                                     clear hK K
                                     refine W.forget (fun e45 he45 => ?_)
                                     have f0_45 := congrArg (fun q => Env.get q 0) he45
                                     simp only [go_sem, Nat.reduceEqDiff, reduceIte, f0_43] at f0_45
                                     have f2_45 := congrArg (fun q => Env.get q 2) he45
                                     simp only [go_sem, Nat.reduceEqDiff, reduceIte] at f2_45
                                     have f5_45 := congrArg (fun q => Env.get q 5) he45
                                     simp only [go_sem, Nat.reduceEqDiff, reduceIte, f5_43] at f5_45
                                     clear he45 f0_43 f5_43 f190_43
                                     refine W.thenN ?_
                                     refine W.ret ?_
                                     refine W.thenR ?_
                                     rw [doneQ_ret]
                                     exact ⟨[.bool true], by simp only [go_sem, ↓forkQ_true, ↓forkQ_false, ↓guardQ_some, ↓resQ_val, ↓resQ_unit, ↓resQ_enter, ↓retQ_some, ↓resFQ_val, ↓resFQ_unit, ↓resFQ_enter, ↓retFQ_some, Nat.reduceEqDiff, reduceIte, Nat.reduceAdd, Nat.reduceMul, Nat.reduceSub, reduceCtorEq, Nat.reduceLeDiff, f0_45, f2_45, f5_45], rfl⟩)
                                · first
                                  | (cases hc44; done)
                                  | (exfalso; simp only [decide_eq_true_eq, decide_eq_false_iff_not, Bool.not_eq_true', Bool.not_eq_false', Bool.not_eq_eq_eq_not, Bool.not_true, Bool.not_false] at hc44; omega)
                                  | (skip
                                     try simp only [decide_eq_true_eq, decide_eq_false_iff_not, Bool.not_eq_true', Bool.not_eq_false', Bool.not_eq_eq_eq_not, Bool.not_true, Bool.not_false] at hc44
                                     refine W.skip ?_
                                     refine W.thenN ?_
                                     refine W.seq ?_
                                     refine W.region (fun K hK => ?_)
                                     have gal : GA k1 l (some ⟨b0, 0, none⟩) := fun _ => ⟨b0, blk, ext, rfl, (t.old b0 hbl).trans hb0, hcs, by omega⟩
                                     have qa := c12 l (some ⟨b0, 0, none⟩) c k1 gal hl
                                     generalize hS : slP l = S at qa hsl
                                     obtain ⟨n1, d1, n2', d2, er⟩ := S
                                     dsimp only [srv] at qa
                                     simp (config := { maxSteps := 10000000 }) only [go_sem, ↓forkQ_true, ↓forkQ_false, ↓guardQ_some, ↓resQ_val, ↓resQ_unit, ↓resQ_enter, ↓retQ_some, ↓resFQ_val, ↓resFQ_unit, ↓resFQ_enter, ↓retFQ_some, Nat.reduceEqDiff, reduceIte, Nat.reduceAdd, Nat.reduceMul, Nat.reduceSub, reduceCtorEq, Nat.reduceLeDiff, f0_43, f5_43, f190_43, t10, t12, t14, t19, t21, z1, z2, hae, hg1, hc1, hae2, hg2, hc2, hc3, hc4, ir1, ir2, w1, w2, w3, ir3, ir4, tz, cz, Nat.zero_mul, qa]
                                     refine hK _ _ ?_
                                     clear hK K
                                     refine W.forget (fun e46 he46 => ?_)
                                     refine W.forgetH (fun k24 hk46 => ?_)
                                     have h9 : (k1.next + 1 < h.next) = False := eq_false (by have := ex.next; omega)
                                     have g24 : Grow k1 k24 := ⟨by rw [hk46]; show k1.next ≤ k1.next + 1 + 1; omega, fun b hb => by rw [hk46, Heap.get_set_ne _ _ (by omega), Heap.get_set_ne _ _ (by omega), Heap.get_alloc_ne _ _ (by show b ≠ k1.next + 1; omega), Heap.get_alloc_ne _ _ (by omega)], by rw [hk46]; simp only [go_sem, ↓forkQ_true, ↓forkQ_false, ↓guardQ_some, ↓resQ_val, ↓resQ_unit, ↓resQ_enter, ↓retQ_some, ↓resFQ_val, ↓resFQ_unit, ↓resFQ_enter, ↓retFQ_some, Nat.reduceEqDiff, reduceIte, Nat.reduceAdd, Nat.reduceMul, Nat.reduceSub, reduceCtorEq, Nat.reduceLeDiff, ex.wr, ex.fact', h9]⟩
                                     have ga9 : k24.get k1.next = some ⟨[.int .i64 n1, .int .i64 d1], true, false, none⟩ := by rw [hk46, Heap.get_set_ne _ _ (by omega)]; exact Heap.get_set_same _ _ _
                                     have ga10 : k24.get (k1.next + 1) = some ⟨[.int .i64 n2', .int .i64 d2], true, false, none⟩ := by rw [hk46]; exact Heap.get_set_same _ _ _
                                     have nx24 : k1.next + 1 + 1 ≤ k24.next := by rw [hk46]; exact Nat.le_refl _
                                     clear hk46
                                     have f5_46 := congrArg (fun q => Env.get q 5) he46
                                     simp only [go_sem, Nat.reduceEqDiff, reduceIte, f5_43] at f5_46
                                     have f9_46 := congrArg (fun q => Env.get q 9) he46
                                     simp only [go_sem, Nat.reduceEqDiff, reduceIte] at f9_46
                                     have f10_46 := congrArg (fun q => Env.get q 10) he46
                                     simp only [go_sem, Nat.reduceEqDiff, reduceIte] at f10_46
                                     have f11_46 := congrArg (fun q => Env.get q 11) he46
                                     simp only [go_sem, Nat.reduceEqDiff, reduceIte] at f11_46
                                     clear he46 f0_43 f5_43 f190_43
                                     refine W.thenN ?_
                                     refine W.seq ?_
                                     refine W.region (fun K hK => ?_)
                                     have qb := c12 M (some ⟨k2.next + 1, 0, none⟩) l.length k24 (t.gam.grow g24) (by omega)
                                     rw [hsl, hml] at qb
                                     dsimp only [srv] at qb
                                     simp (config := { maxSteps := 10000000 }) only [go_sem, ↓forkQ_true, ↓forkQ_false, ↓guardQ_some, ↓resQ_val, ↓resQ_unit, ↓resQ_enter, ↓retQ_some, ↓resFQ_val, ↓resFQ_unit, ↓resFQ_enter, ↓retFQ_some, Nat.reduceEqDiff, reduceIte, Nat.reduceAdd, Nat.reduceMul, Nat.reduceSub, reduceCtorEq, Nat.reduceLeDiff, f5_46, f9_46, f10_46, f11_46, t10, t12, t14, t19, t21, z1, z2, hae, hg1, hc1, hae2, hg2, hc2, hc3, hc4, ir1, ir2, w1, w2, w3, ir3, ir4, tz, cz, Nat.zero_mul, qa, qb]
                                     refine hK _ _ ?_
                                     clear hK K
                                     refine W.forget (fun e47 he47 => ?_)
                                     have f9_47 := congrArg (fun q => Env.get q 9) he47
                                     simp only [go_sem, Nat.reduceEqDiff, reduceIte, f9_46] at f9_47
                                     have f10_47 := congrArg (fun q => Env.get q 10) he47
                                     simp only [go_sem, Nat.reduceEqDiff, reduceIte, f10_46] at f10_47
                                     have f11_47 := congrArg (fun q => Env.get q 11) he47
                                     simp only [go_sem, Nat.reduceEqDiff, reduceIte, f11_46] at f11_47
                                     have f12_47 := congrArg (fun q => Env.get q 12) he47
                                     simp only [go_sem, Nat.reduceEqDiff, reduceIte] at f12_47
                                     have f13_47 := congrArg (fun q => Env.get q 13) he47
                                     simp only [go_sem, Nat.reduceEqDiff, reduceIte] at f13_47
                                     have f14_47 := congrArg (fun q => Env.get q 14) he47
                                     simp only [go_sem, Nat.reduceEqDiff, reduceIte] at f14_47
                                     clear he47 f5_46 f9_46 f10_46 f11_46
                                     refine W.thenN ?_
                                     refine W.seq ?_
                                     refine W.regionA (fun A hA K hK => ?_)
                                     have gd3 := guardAt hA (j := 3) (d := 206) rfl
                                     have gd8 := guardAt hA (j := 8) (d := 211) rfl
                                     have gd13 := guardAt hA (j := 13) (d := 216) rfl
                                     clear hA
                                     have f1 : (k24.next = k1.next) = False := eq_false (by omega)
                                     have f2 : (k24.next + 1 = k1.next) = False := eq_false (by omega)
                                     have f3 : (k24.next = k1.next + 1) = False := eq_false (by omega)
                                     have f4 : (k24.next + 1 = k1.next + 1) = False := eq_false (by omega)
                                     have f5 : (k1.next = k24.next) = False := eq_false (by omega)
                                     have f6 : (k1.next = k24.next + 1) = False := eq_false (by omega)
                                     have f7 : (k1.next + 1 = k24.next) = False := eq_false (by omega)
                                     have f8 : (k1.next + 1 = k24.next + 1) = False := eq_false (by omega)
                                     simp (config := { maxSteps := 10000000 }) only [go_sem, ↓forkQ_true, ↓forkQ_false, ↓guardQ_some, ↓resQ_val, ↓resQ_unit, ↓resQ_enter, ↓retQ_some, ↓resFQ_val, ↓resFQ_unit, ↓resFQ_enter, ↓retFQ_some, Nat.reduceEqDiff, reduceIte, Nat.reduceAdd, Nat.reduceMul, Nat.reduceSub, reduceCtorEq, Nat.reduceLeDiff, f9_47, f10_47, f11_47, f12_47, f13_47, f14_47, t10, t12, t14, t19, t21, z1, z2, hae, hg1, hc1, hae2, hg2, hc2, hc3, hc4, ir1, ir2, w1, w2, w3, ir3, ir4, tz, cz, Nat.zero_mul, qa, qb, f1, f2, f3, f4, f5, f6, f7, f8, ga9, ga10, cfT_at, gd3, gd8, gd13]
                                     repeat' (first | (refine W.forkP (fun hc48 => ?_) (fun hc48 => ?_) <;> simp (config := { maxSteps := 10000000 }) only [go_sem, ↓forkQ_true, ↓forkQ_false, ↓guardQ_some, ↓resQ_val, ↓resQ_unit, ↓resQ_enter, ↓retQ_some, ↓resFQ_val, ↓resFQ_unit, ↓resFQ_enter, ↓retFQ_some, Nat.reduceEqDiff, reduceIte, Nat.reduceAdd, Nat.reduceMul, Nat.reduceSub, reduceCtorEq, Nat.reduceLeDiff, f9_47, f10_47, f11_47, f12_47, f13_47, f14_47, t10, t12, t14, t19, t21, z1, z2, hae, hg1, hc1, hae2, hg2, hc2, hc3, hc4, ir1, ir2, w1, w2, w3, ir3, ir4, tz, cz, Nat.zero_mul, qa, qb, f1, f2, f3, f4, f5, f6, f7, f8, ga9, ga10, cfT_at, gd3, gd8, gd13, hc48]) | (refine W.fork (fun hc48 => ?_) (fun hc48 => ?_) <;> simp (config := { maxSteps := 10000000 }) only [go_sem, ↓forkQ_true, ↓forkQ_false, ↓guardQ_some, ↓resQ_val, ↓resQ_unit, ↓resQ_enter, ↓retQ_some, ↓resFQ_val, ↓resFQ_unit, ↓resFQ_enter, ↓retFQ_some, Nat.reduceEqDiff, reduceIte, Nat.reduceAdd, Nat.reduceMul, Nat.reduceSub, reduceCtorEq, Nat.reduceLeDiff, f9_47, f10_47, f11_47, f12_47, f13_47, f14_47, t10, t12, t14, t19, t21, z1, z2, hae, hg1, hc1, hae2, hg2, hc2, hc3, hc4, ir1, ir2, w1, w2, w3, ir3, ir4, tz, cz, Nat.zero_mul, qa, qb, f1, f2, f3, f4, f5, f6, f7, f8, ga9, ga10, cfT_at, gd3, gd8, gd13, hc48]))
                                     all_goals
                                       refine hK _ _ ?_
                                       clear hK K A gd3 gd8 gd13
                                       refine W.forget (fun e48 he48 => ?_)
                                       have f2_48 := congrArg (fun q => Env.get q 2) he48
                                       simp only [go_sem, Nat.reduceEqDiff, reduceIte] at f2_48
                                       clear he48 f9_47 f10_47 f11_47 f12_47 f13_47 f14_47
                                       refine W.thenN ?_
                                       refine W.ret ?_
                                       rw [doneQ_ret]
                                       exact ⟨[.bool true], by simp only [go_sem, ↓forkQ_true, ↓forkQ_false, ↓guardQ_some, ↓resQ_val, ↓resQ_unit, ↓resQ_enter, ↓retQ_some, ↓resFQ_val, ↓resFQ_unit, ↓resFQ_enter, ↓retFQ_some, Nat.reduceEqDiff, reduceIte, Nat.reduceAdd, Nat.reduceMul, Nat.reduceSub, reduceCtorEq, Nat.reduceLeDiff, f2_48], rfl⟩))
                       · obtain rfl : r = (Un l).length := by omega
                         exact ⟨⟨hi.t, f0_29, f3_29, f4_29, f5_29⟩, f8_29, Nat.zero_le _, fun q hq => by
  dsimp only
  rw [hi.m q hq, List.take_length]
  simp⟩)
                · obtain rfl : i = l.length := by omega
                  exact ⟨⟨hi.t, f0_15, f3_15, f4_15, f5_15⟩, f7_15, Nat.zero_le _, fun q hq => by
  dsimp only
  rw [hi.m q hq, if_pos hq]
  simp⟩)
         · exact ⟨⟨t4, f0_8, f3_8, f4_8, f5_8⟩, f6_8, Nat.zero_le _, fun q hq => by rw [if_neg (Nat.not_lt_zero q)]⟩)
end Go.Proofs.Ytlblocieleildaa
