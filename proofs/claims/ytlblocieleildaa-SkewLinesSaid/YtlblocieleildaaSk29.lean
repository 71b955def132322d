/- What At gives. -/
import Derived.Test.YtlblocieleildaaSk18
import Derived.Test.YtlblocieleildaaSk27
import Derived.Test.YtlblocieleildaaSk28
set_option linter.unusedSimpArgs false
set_option linter.unusedVariables false
set_option maxRecDepth 20000
set_option maxHeartbeats 4000000
namespace Go.Proofs.Ytlblocieleildaa
open Go.Am Go.Plain

def highP (l : List Gt) (x : Int) : Bd := gF (hAll l (Un l) (Ln l) x)
def lowBP (l : List Gt) (x : Int) : Bd := gF (hAll (turnedL l) (Ln l) (Un l) x)
def atP (l : List Gt) (x : Int) : Sr := if checkZ l = 0 then
    (if x < 0 ∨ 1073741824 < x then ⟨0, 0, 0, 0, 3⟩
    else if (l.length = 1 ∧ x ≠ (gt l 0).x) ∨ passP l = false then ⟨0, 0, 0, 0, 11⟩
    else ⟨wrapF .i64 (0 - (lowBP l x).n), (lowBP l x).d, (highP l x).n, (highP l x).d, 0⟩)
  else ⟨0, 0, 0, 0, checkZ l⟩
theorem c23 (l : List Gt) (a : Option Addr) (c : Nat) (x : Int) (h : Heap) (hg : GA h l a) (hl : l.length ≤ 24) : callW Try.prog SkH 23 [.slice a l.length c, .int .i64 x] h = some (srv (atP l x), h, true) := by
  generalize hH : ((h.low h.next).alloc ⟨[.int .i64 0, .int .i64 0], true, false, none⟩).alloc ⟨[.int .i64 0, .int .i64 0], true, false, none⟩ = H
  have ex : Ext h H := by rw [← hH]; exact ((Ext.low h).alloc _).alloc _
  have hga := hg.ext ex
  have q14 := c14 l a c H hga hl
  have q16 := c16 l a c H hga hl
  refine call_flat (rs := [.cell 4 26, .cell 5 26, .tmp 6]) [_, _, _] Try.func23 rfl rfl ?_ ?_
  rotate_left
  · by_cases hz : checkZ l = 0
    · by_cases hx0 : x < 0
      · have hs : atP l x = ⟨0, 0, 0, 0, 3⟩ := by unfold atP; rw [if_pos hz, if_pos (.inl hx0)]
        rw [hs]
        subst hH
        simp only [go_sem, ↓forkQ_true, ↓forkQ_false, ↓guardQ_some, ↓resQ_val, ↓resQ_unit, ↓resQ_enter, ↓retQ_some, ↓resFQ_val, ↓resFQ_unit, ↓resFQ_enter, ↓retFQ_some, Nat.reduceEqDiff, reduceIte, Nat.reduceAdd, Nat.reduceMul, Nat.reduceSub, reduceCtorEq, Nat.reduceLeDiff, guardOf, q14, hz, hx0]
      by_cases hx1 : 1073741824 < x
      · have hs : atP l x = ⟨0, 0, 0, 0, 3⟩ := by unfold atP; rw [if_pos hz, if_pos (.inr hx1)]
        rw [hs]
        subst hH
        simp only [go_sem, ↓forkQ_true, ↓forkQ_false, ↓guardQ_some, ↓resQ_val, ↓resQ_unit, ↓resQ_enter, ↓retQ_some, ↓resFQ_val, ↓resFQ_unit, ↓resFQ_enter, ↓retFQ_some, Nat.reduceEqDiff, reduceIte, Nat.reduceAdd, Nat.reduceMul, Nat.reduceSub, reduceCtorEq, Nat.reduceLeDiff, guardOf, q14, hz, hx0, hx1]
      have o := (checkZ_ok l).1 hz
      obtain ⟨b0, blk, ext, rfl, hb, hcs, hbl⟩ := hga (ne_of_lt o.pos)
      have c0 := gcell0 (ext := ext) o.pos
      rw [Nat.zero_mul] at c0
      have ir0 : inRange (0 : Int) l.length = true := inRange_nat (i := 0) o.pos
      have tz : (0 : Int).toNat = 0 := rfl
      by_cases hone : l.length = 1 ∧ x ≠ (gt l 0).x
      · have hs : atP l x = ⟨0, 0, 0, 0, 11⟩ := by unfold atP; rw [if_pos hz, if_neg (by omega), if_pos (.inl hone)]
        rw [hs]
        have h1' : ((l.length : Int) = 1) = True := eq_true (by omega)
        have hx2 : (x = (gt l 0).x) = False := eq_false hone.2
        subst hH
        simp only [go_sem, ↓forkQ_true, ↓forkQ_false, ↓guardQ_some, ↓resQ_val, ↓resQ_unit, ↓resQ_enter, ↓retQ_some, ↓resFQ_val, ↓resFQ_unit, ↓resFQ_enter, ↓retFQ_some, Nat.reduceEqDiff, reduceIte, Nat.reduceAdd, Nat.reduceMul, Nat.reduceSub, reduceCtorEq, Nat.reduceLeDiff, guardOf, q14, hz, hx0, hx1, h1', hb, hcs, c0, ir0, tz, Nat.zero_mul, hx2]
      cases hp : passP l
      · have hs : atP l x = ⟨0, 0, 0, 0, 11⟩ := by unfold atP; rw [if_pos hz, if_neg (by omega), if_pos (.inr hp)]
        rw [hs]
        by_cases h1 : l.length = 1
        · have h1' : ((l.length : Int) = 1) = True := eq_true (by omega)
          have hx2 : (x = (gt l 0).x) = True := eq_true (Classical.not_not.1 fun h => hone ⟨h1, h⟩)
          subst hH
          simp only [go_sem, ↓forkQ_true, ↓forkQ_false, ↓guardQ_some, ↓resQ_val, ↓resQ_unit, ↓resQ_enter, ↓retQ_some, ↓resFQ_val, ↓resFQ_unit, ↓resFQ_enter, ↓retFQ_some, Nat.reduceEqDiff, reduceIte, Nat.reduceAdd, Nat.reduceMul, Nat.reduceSub, reduceCtorEq, Nat.reduceLeDiff, guardOf, q14, hz, hx0, hx1, h1', hb, hcs, c0, ir0, tz, Nat.zero_mul, hx2, q16, hp]
        · have h1' : ((l.length : Int) = 1) = False := eq_false (by omega)
          subst hH
          simp only [go_sem, ↓forkQ_true, ↓forkQ_false, ↓guardQ_some, ↓resQ_val, ↓resQ_unit, ↓resQ_enter, ↓retQ_some, ↓resFQ_val, ↓resFQ_unit, ↓resFQ_enter, ↓retFQ_some, Nat.reduceEqDiff, reduceIte, Nat.reduceAdd, Nat.reduceMul, Nat.reduceSub, reduceCtorEq, Nat.reduceLeDiff, guardOf, q14, hz, hx0, hx1, h1', q16, hp]
      · have hs : atP l x = ⟨wrapF .i64 (0 - (lowBP l x).n), (lowBP l x).d, (highP l x).n, (highP l x).d, 0⟩ := by unfold atP; rw [if_pos hz, if_neg (by omega), if_neg (by rw [hp]; simp; omega)]
        rw [hs]
        obtain ⟨a1, c1, a2, c2, k1, k2, q19, q21, _, g, hga2, i1, i2⟩ := slopes_at l _ c H hga hl hz
        have ul := Un_len l
        have ll := Ln_len l
        have q38 := c38 l (Un l) (Ln l) _ a1 a2 c c1 c2 x k2 hga2 i1 i2 o hl Un_lt Ln_lt (by omega) (by omega) (by omega)
        change _ = some (Value.agg #[.int .i64 (highP l x).n, .int .i64 (highP l x).d], k2, true) at q38
        generalize highP l x = hi at *
        have hw2 : k2.wr = h.next := g.wr.trans ex.wr
        have hn : h.next + 1 + 1 ≤ k2.next := by have := g.next; rw [← hH] at this; exact this
        generalize hH3 : (k2.alloc ⟨[.int .i64 0, .int .i64 0], true, false, none⟩).set k2.next ⟨[.int .i64 hi.n, .int .i64 hi.d], true, false, none⟩ = H3
        have g3 : Grow k2 H3 := by
          rw [← hH3]
          exact ⟨Nat.le_succ _, fun b hb => by rw [Heap.get_set_ne _ _ (by omega), Heap.get_alloc_ne _ _ (by omega)], by rw [Heap.wr_set, Heap.wr_alloc, hw2, if_neg (by omega)]⟩
        have g10 : H3.get k2.next = some ⟨[.int .i64 hi.n, .int .i64 hi.d], true, false, none⟩ := by rw [← hH3]; exact Heap.get_set_same _ _ _
        have n3 : k2.next + 1 ≤ H3.next := by rw [← hH3]; exact Nat.le_refl _
        obtain ⟨a3, h4, q39, g4, hga4⟩ := c39 l _ c H3 (hga2.grow g3) o hl
        rw [turnedL_len] at q39
        have q38' := c38 (turnedL l) (Ln l) (Un l) a3 a2 a1 l.length c2 c1 x h4 hga4 ((i2.grow g3).grow g4) ((i1.grow g3).grow g4) o.turned (by rw [turnedL_len]; exact hl) (fun k hk => by rw [turnedL_len]; exact Ln_lt k hk) (fun k hk => by rw [turnedL_len]; exact Un_lt k hk) (by omega) (by omega) (by omega)
        rw [turnedL_len] at q38'
        change _ = some (Value.agg #[.int .i64 (lowBP l x).n, .int .i64 (lowBP l x).d], h4, true) at q38'
        generalize lowBP l x = lo at *
        have gk := g3.trans g4
        have n4 := gk.next
        have n5 := g4.next
        have hw : h4.wr = h.next := gk.wr.trans hw2
        have z4 : h4.get h.next = some ⟨[.int .i64 0, .int .i64 0], true, false, none⟩ := (gk.get _ (by omega)).trans ((g.get _ (by rw [← hH]; show h.next < h.next + 1 + 1; omega)).trans (by rw [← hH, Heap.get_alloc_ne _ _ (by show h.next ≠ h.next + 1; omega)]; exact Heap.get_alloc_same _ _))
        have z5 : h4.get (h.next + 1) = some ⟨[.int .i64 0, .int .i64 0], true, false, none⟩ := (gk.get _ (by omega)).trans ((g.get _ (by rw [← hH]; show h.next + 1 < h.next + 1 + 1; omega)).trans (by rw [← hH]; exact Heap.get_alloc_same _ _))
        have g10' : h4.get k2.next = some ⟨[.int .i64 hi.n, .int .i64 hi.d], true, false, none⟩ := (g4.get _ (by omega)).trans g10
        have m1 : (h4.next < h.next) = False := eq_false (by omega)
        have m2 : (k2.next < h.next) = False := eq_false (by omega)
        have e1 : (h4.next = h.next) = False := eq_false (by omega)
        have e2 : (h.next = h4.next) = False := eq_false (by omega)
        have e3 : (h4.next = h.next + 1) = False := eq_false (by omega)
        have e4 : (h.next + 1 = h4.next) = False := eq_false (by omega)
        have e5 : (h4.next = k2.next) = False := eq_false (by omega)
        have e6 : (k2.next = h4.next) = False := eq_false (by omega)
        have e7 : (k2.next = h.next) = False := eq_false (by omega)
        have e8 : (h.next = k2.next) = False := eq_false (by omega)
        have e9 : (k2.next = h.next + 1) = False := eq_false (by omega)
        have e10 : (h.next + 1 = k2.next) = False := eq_false (by omega)
        by_cases h1 : l.length = 1
        · have h1' : ((l.length : Int) = 1) = True := eq_true (by omega)
          have hx2 : (x = (gt l 0).x) = True := eq_true (Classical.not_not.1 fun h => hone ⟨h1, h⟩)
          subst hH; subst hH3
          simp only [go_sem, ↓forkQ_true, ↓forkQ_false, ↓guardQ_some, ↓resQ_val, ↓resQ_unit, ↓resQ_enter, ↓retQ_some, ↓resFQ_val, ↓resFQ_unit, ↓resFQ_enter, ↓retFQ_some, Nat.reduceEqDiff, reduceIte, Nat.reduceAdd, Nat.reduceMul, Nat.reduceSub, reduceCtorEq, Nat.reduceLeDiff, guardOf, q14, hz, hx0, hx1, h1', hb, hcs, c0, ir0, tz, Nat.zero_mul, hx2, q16, hp, q19, q21, q38, q39, q38', hw, z4, z5, g10', m1, m2, e1, e2, e3, e4, e5, e6, e7, e8, e9, e10]
        · have h1' : ((l.length : Int) = 1) = False := eq_false (by omega)
          subst hH; subst hH3
          simp only [go_sem, ↓forkQ_true, ↓forkQ_false, ↓guardQ_some, ↓resQ_val, ↓resQ_unit, ↓resQ_enter, ↓retQ_some, ↓resFQ_val, ↓resFQ_unit, ↓resFQ_enter, ↓retFQ_some, Nat.reduceEqDiff, reduceIte, Nat.reduceAdd, Nat.reduceMul, Nat.reduceSub, reduceCtorEq, Nat.reduceLeDiff, guardOf, q14, hz, hx0, hx1, h1', q16, hp, q19, q21, q38, q39, q38', hw, z4, z5, g10', m1, m2, e1, e2, e3, e4, e5, e6, e7, e8, e9, e10]
    · have hs : atP l x = ⟨0, 0, 0, 0, checkZ l⟩ := by unfold atP; rw [if_neg hz]
      rw [hs]
      subst hH
      simp only [go_sem, ↓forkQ_true, ↓forkQ_false, ↓guardQ_some, ↓resQ_val, ↓resQ_unit, ↓resQ_enter, ↓retQ_some, ↓resFQ_val, ↓resFQ_unit, ↓resFQ_enter, ↓retFQ_some, Nat.reduceEqDiff, reduceIte, Nat.reduceAdd, Nat.reduceMul, Nat.reduceSub, reduceCtorEq, Nat.reduceLeDiff, guardOf, q14, hz]
  · rfl
end Go.Proofs.Ytlblocieleildaa
