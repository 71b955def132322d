/- What the reference's At gives. -/
import Derived.Test.YtlblocieleildaaSk5
import Derived.Test.YtlblocieleildaaSk9
import Derived.Test.YtlblocieleildaaSk19
import Derived.Test.YtlblocieleildaaSk31
import Derived.Test.YtlblocieleildaaPl1
set_option linter.unusedSimpArgs false
set_option linter.unusedVariables false
set_option maxRecDepth 20000
set_option maxHeartbeats 4000000
namespace Go.Proofs.Ytlblocieleildaa
open Go.Am Go.Plain

theorem pairOk_call2 (n n' : Nat) (h : Heap) (rd : List Nat) (f : Eff) : pairOk (Foot.mk1 h rd f) ⟨true, false, n, n', [], []⟩ = (f.wr.isEmpty && Nat.beq h.next (h.eff f).next) := by
  unfold pairOk Foot.mk1 apartL
  simp
def highR (l : List Gt) (x : Int) : Bd := gV (vOut l x l.length)
def lowBR (l : List Gt) (x : Int) : Bd := gV (vOut (turnedL l) x l.length)
def atR (l : List Gt) (x : Int) : Sr := if checkZ l = 0 then
    (if x < 0 ∨ 1073741824 < x then ⟨0, 0, 0, 0, 3⟩
    else if (l.length = 1 ∧ x ≠ (gt l 0).x) ∨ passR l = false then ⟨0, 0, 0, 0, 11⟩
    else ⟨wrapF .i64 (0 - (lowBR l x).n), (lowBR l x).d, (highR l x).n, (highR l x).d, 0⟩)
  else ⟨0, 0, 0, 0, checkZ l⟩
theorem c24 (l : List Gt) (a : Option Addr) (c : Nat) (x : Int) (h : Heap) (hg : GA h l a) (hl : l.length ≤ 24) : callW Try.prog SkH 24 [.slice a l.length c, .int .i64 x] h = some (srv (atR l x), h, true) := by
  generalize hH : ((h.low h.next).alloc ⟨[.int .i64 0, .int .i64 0], true, false, none⟩).alloc ⟨[.int .i64 0, .int .i64 0], true, false, none⟩ = H
  have ex : Ext h H := by rw [← hH]; exact ((Ext.low h).alloc _).alloc _
  have hga := hg.ext ex
  have q15 := c15 l a c H hga hl
  have q17 := c17 l a c H hga hl
  refine call_flat (rs := [.cell 4 26, .cell 5 26, .tmp 6]) [_, _, _] Try.func24 rfl rfl ?_ ?_
  rotate_left
  · by_cases hz : checkZ l = 0
    · by_cases hx0 : x < 0
      · have hs : atR l x = ⟨0, 0, 0, 0, 3⟩ := by unfold atR; rw [if_pos hz, if_pos (.inl hx0)]
        rw [hs]
        subst hH
        simp only [go_sem, ↓forkQ_true, ↓forkQ_false, ↓guardQ_some, ↓resQ_val, ↓resQ_unit, ↓resQ_enter, ↓retQ_some, ↓resFQ_val, ↓resFQ_unit, ↓resFQ_enter, ↓retFQ_some, Nat.reduceEqDiff, reduceIte, Nat.reduceAdd, Nat.reduceMul, Nat.reduceSub, reduceCtorEq, Nat.reduceLeDiff, guardOf, q15, hz, hx0]
      by_cases hx1 : 1073741824 < x
      · have hs : atR l x = ⟨0, 0, 0, 0, 3⟩ := by unfold atR; rw [if_pos hz, if_pos (.inr hx1)]
        rw [hs]
        subst hH
        simp only [go_sem, ↓forkQ_true, ↓forkQ_false, ↓guardQ_some, ↓resQ_val, ↓resQ_unit, ↓resQ_enter, ↓retQ_some, ↓resFQ_val, ↓resFQ_unit, ↓resFQ_enter, ↓retFQ_some, Nat.reduceEqDiff, reduceIte, Nat.reduceAdd, Nat.reduceMul, Nat.reduceSub, reduceCtorEq, Nat.reduceLeDiff, guardOf, q15, hz, hx0, hx1]
      have o := (checkZ_ok l).1 hz
      have hga0 := hga
      obtain ⟨b0, blk, ext, rfl, hb, hcs, hbl⟩ := hga (ne_of_lt o.pos)
      have c0 := gcell0 (ext := ext) o.pos
      rw [Nat.zero_mul] at c0
      have ir0 : inRange (0 : Int) l.length = true := inRange_nat (i := 0) o.pos
      have tz : (0 : Int).toNat = 0 := rfl
      by_cases hone : l.length = 1 ∧ x ≠ (gt l 0).x
      · have hs : atR l x = ⟨0, 0, 0, 0, 11⟩ := by unfold atR; rw [if_pos hz, if_neg (by omega), if_pos (.inl hone)]
        rw [hs]
        have h1' : ((l.length : Int) = 1) = True := eq_true (by omega)
        have hx2 : (x = (gt l 0).x) = False := eq_false hone.2
        subst hH
        simp only [go_sem, ↓forkQ_true, ↓forkQ_false, ↓guardQ_some, ↓resQ_val, ↓resQ_unit, ↓resQ_enter, ↓retQ_some, ↓resFQ_val, ↓resFQ_unit, ↓resFQ_enter, ↓retFQ_some, Nat.reduceEqDiff, reduceIte, Nat.reduceAdd, Nat.reduceMul, Nat.reduceSub, reduceCtorEq, Nat.reduceLeDiff, guardOf, q15, hz, hx0, hx1, h1', hb, hcs, c0, ir0, tz, Nat.zero_mul, hx2]
      cases hp : passR l
      · have hs : atR l x = ⟨0, 0, 0, 0, 11⟩ := by unfold atR; rw [if_pos hz, if_neg (by omega), if_pos (.inr hp)]
        rw [hs]
        by_cases h1 : l.length = 1
        · have h1' : ((l.length : Int) = 1) = True := eq_true (by omega)
          have hx2 : (x = (gt l 0).x) = True := eq_true (Classical.not_not.1 fun h => hone ⟨h1, h⟩)
          subst hH
          simp only [go_sem, ↓forkQ_true, ↓forkQ_false, ↓guardQ_some, ↓resQ_val, ↓resQ_unit, ↓resQ_enter, ↓retQ_some, ↓resFQ_val, ↓resFQ_unit, ↓resFQ_enter, ↓retFQ_some, Nat.reduceEqDiff, reduceIte, Nat.reduceAdd, Nat.reduceMul, Nat.reduceSub, reduceCtorEq, Nat.reduceLeDiff, guardOf, q15, hz, hx0, hx1, h1', hb, hcs, c0, ir0, tz, Nat.zero_mul, hx2, q17, hp]
        · have h1' : ((l.length : Int) = 1) = False := eq_false (by omega)
          subst hH
          simp only [go_sem, ↓forkQ_true, ↓forkQ_false, ↓guardQ_some, ↓resQ_val, ↓resQ_unit, ↓resQ_enter, ↓retQ_some, ↓resFQ_val, ↓resFQ_unit, ↓resFQ_enter, ↓retFQ_some, Nat.reduceEqDiff, reduceIte, Nat.reduceAdd, Nat.reduceMul, Nat.reduceSub, reduceCtorEq, Nat.reduceLeDiff, guardOf, q15, hz, hx0, hx1, h1', q17, hp]
      · have hs : atR l x = ⟨wrapF .i64 (0 - (lowBR l x).n), (lowBR l x).d, (highR l x).n, (highR l x).d, 0⟩ := by unfold atR; rw [if_pos hz, if_neg (by omega), if_neg (by rw [hp]; simp; omega)]
        rw [hs]
        obtain ⟨a3, k2, q37, g2, hga2⟩ := c37 l _ c H hga0 o hl
        rw [turnedL_len] at q37
        have q40 := c40 (turnedL l) a3 l.length x k2 hga2 o.turned (by rw [turnedL_len]; exact hl) (by omega)
        rw [turnedL_len] at q40
        change _ = some (Value.agg #[.int .i64 (lowBR l x).n, .int .i64 (lowBR l x).d], k2, true) at q40
        generalize lowBR l x = lo at *
        have hw2 : k2.wr = h.next := g2.wr.trans ex.wr
        have hn : h.next + 1 + 1 ≤ k2.next := by have := g2.next; rw [← hH] at this; exact this
        generalize hH3 : (k2.alloc ⟨[.int .i64 0, .int .i64 0], true, false, none⟩).set k2.next ⟨[.int .i64 lo.n, .int .i64 lo.d], true, false, none⟩ = H3
        have g3 : Grow k2 H3 := by
          rw [← hH3]
          exact ⟨Nat.le_succ _, fun b hb => by rw [Heap.get_set_ne _ _ (by omega), Heap.get_alloc_ne _ _ (by omega)], by rw [Heap.wr_set, Heap.wr_alloc, hw2, if_neg (by omega)]⟩
        have q40' := c40 l _ c x H3 ((hga0.grow g2).grow g3) o hl (by omega)
        change _ = some (Value.agg #[.int .i64 (highR l x).n, .int .i64 (highR l x).d], H3, true) at q40'
        generalize highR l x = hi at *
        have z4 : k2.get h.next = some ⟨[.int .i64 0, .int .i64 0], true, false, none⟩ := (g2.get _ (by rw [← hH]; show h.next < h.next + 1 + 1; omega)).trans (by rw [← hH, Heap.get_alloc_ne _ _ (by show h.next ≠ h.next + 1; omega)]; exact Heap.get_alloc_same _ _)
        have z5 : k2.get (h.next + 1) = some ⟨[.int .i64 0, .int .i64 0], true, false, none⟩ := (g2.get _ (by rw [← hH]; show h.next + 1 < h.next + 1 + 1; omega)).trans (by rw [← hH]; exact Heap.get_alloc_same _ _)
        have m2 : (k2.next < h.next) = False := eq_false (by omega)
        have e7 : (k2.next = h.next) = False := eq_false (by omega)
        have e8 : (h.next = k2.next) = False := eq_false (by omega)
        have e9 : (k2.next = h.next + 1) = False := eq_false (by omega)
        have e10 : (h.next + 1 = k2.next) = False := eq_false (by omega)
        by_cases h1 : l.length = 1
        · have h1' : ((l.length : Int) = 1) = True := eq_true (by omega)
          have hx2 : (x = (gt l 0).x) = True := eq_true (Classical.not_not.1 fun h => hone ⟨h1, h⟩)
          subst hH; subst hH3
          simp only [go_sem, ↓forkQ_true, ↓forkQ_false, ↓guardQ_some, ↓resQ_val, ↓resQ_unit, ↓resQ_enter, ↓retQ_some, ↓resFQ_val, ↓resFQ_unit, ↓resFQ_enter, ↓retFQ_some, Nat.reduceEqDiff, reduceIte, Nat.reduceAdd, Nat.reduceMul, Nat.reduceSub, reduceCtorEq, Nat.reduceLeDiff, guardOf, q15, hz, hx0, hx1, h1', hb, hcs, c0, ir0, tz, Nat.zero_mul, hx2, q17, hp, q37, q40, q40', hw2, z4, z5, m2, e7, e8, e9, e10, pairOk_call2]
        · have h1' : ((l.length : Int) = 1) = False := eq_false (by omega)
          subst hH; subst hH3
          simp only [go_sem, ↓forkQ_true, ↓forkQ_false, ↓guardQ_some, ↓resQ_val, ↓resQ_unit, ↓resQ_enter, ↓retQ_some, ↓resFQ_val, ↓resFQ_unit, ↓resFQ_enter, ↓retFQ_some, Nat.reduceEqDiff, reduceIte, Nat.reduceAdd, Nat.reduceMul, Nat.reduceSub, reduceCtorEq, Nat.reduceLeDiff, guardOf, q15, hz, hx0, hx1, h1', q17, hp, q37, q40, q40', hw2, z4, z5, m2, e7, e8, e9, e10, pairOk_call2]
    · have hs : atR l x = ⟨0, 0, 0, 0, checkZ l⟩ := by unfold atR; rw [if_neg hz]
      rw [hs]
      subst hH
      simp only [go_sem, ↓forkQ_true, ↓forkQ_false, ↓guardQ_some, ↓resQ_val, ↓resQ_unit, ↓resQ_enter, ↓retQ_some, ↓resFQ_val, ↓resFQ_unit, ↓resFQ_enter, ↓retFQ_some, Nat.reduceEqDiff, reduceIte, Nat.reduceAdd, Nat.reduceMul, Nat.reduceSub, reduceCtorEq, Nat.reduceLeDiff, guardOf, q15, hz]
  · rfl
end Go.Proofs.Ytlblocieleildaa
