/- What Lower and Upper give. -/
import Derived.Test.YtlblocieleildaaSk11
set_option linter.unusedSimpArgs false
set_option linter.unusedVariables false
set_option maxRecDepth 20000
namespace Go.Proofs.Ytlblocieleildaa
open Go.Am Go.Plain
def Xs (l : List Gt) (i : Nat) : Int := (gt l i).x
def His (l : List Gt) (i : Nat) : Int := (gt l i).hi
def Los (l : List Gt) (i : Nat) : Int := -(gt l i).lo
/-- the corners that the program tells -/
def lowP (l : List Gt) : List Int := if checkZ l = 0 then bot (stack (Xs l) (His l) l.length) else []
def uppP (l : List Gt) : List Int := if checkZ l = 0 then bot (stack (Xs l) (Los l) l.length) else []
theorem c19 (l : List Gt) (a : Option Addr) (c : Nat) (h : Heap) (hg : GA h l a) (hl : l.length ≤ 24) : ∃ a' c' h', callW Try.prog SkH 19 [.slice a l.length c] h = some (.slice a' (lowP l).length c', h', true) ∧ Grow h h' ∧ OL h' a' c' 1 (icells (lowP l)) (lowP l).length h.next := by
  by_cases hz : checkZ l = 0
  · have hr : lowP l = bot (stack (Xs l) (His l) l.length) := by unfold lowP; rw [if_pos hz]
    rw [hr, bot_len]
    have o := (checkZ_ok l).1 hz
    obtain ⟨a1, c1, h1, q32, g1, o1⟩ := c32_ok l a c (h.low h.next) (hg.ext (Ext.low h)) o hl 33 hb33 (Xs l) (His l) (fun i j k hi hj hk h => by
      have ri := o.rng i hi
      have rj := o.rng j hj
      have rk := o.rng k hk
      rw [c33, turn_eq (by omega) (by omega) (by omega) (by omega) (by omega) (by omega)]
      rfl)
    have hw : h1.wr = h.next := g1.wr
    obtain ⟨vs, h9, ⟨rfl, rfl⟩, hc9⟩ := call_done (H := SkH) (rs := [.tmp 2]) (R := fun vs h9 => vs = [.slice a1 (stack (Xs l) (His l) l.length).length c1] ∧ h9 = h1) (args := [.slice a l.length c]) (h := h) Try.func19 rfl rfl (by
      simp only [go_sem, ↓forkQ_true, ↓forkQ_false, ↓guardQ_some, ↓resQ_val, ↓resQ_unit, ↓resQ_enter, ↓retQ_some, ↓resFQ_val, ↓resFQ_unit, ↓resFQ_enter, ↓retFQ_some, Nat.reduceEqDiff, reduceIte, Nat.reduceAdd, Nat.reduceMul, Nat.reduceSub, reduceCtorEq, Nat.reduceLeDiff, q32, doneQ_ret]
      exact ⟨_, rfl, rfl⟩)
    obtain ⟨a', h', q1, q2, q3⟩ := (show OL h9 a1 c1 1 _ _ h.next from o1).leave (h := h) hw
    exact ⟨a', c1, h', hc9.trans (congrArg some q1), q2, q3⟩
  · have hr : lowP l = [] := by unfold lowP; rw [if_neg hz]
    rw [hr]
    refine ⟨none, 0, h, ?_, Grow.refl h, OL.nil _ _ _⟩
    have q32 : ∀ f, callW Try.prog SkH 32 [.slice a l.length c, .func (.func f) #[] #[]] (h.low h.next) = some (.slice none 0 0, h.low h.next, true) := fun f => by
      refine call_flat (rs := [.tmp 4]) [_] Try.func32 rfl rfl ?_ ?_
      rotate_left
      · have q14 := c14 l a c ((h.low h.next).low (h.low h.next).next) (hg.ext (Ext.low h)) hl
        simp only [go_sem, ↓forkQ_true, ↓forkQ_false, ↓guardQ_some, ↓resQ_val, ↓resQ_unit, ↓resQ_enter, ↓retQ_some, ↓resFQ_val, ↓resFQ_unit, ↓resFQ_enter, ↓retFQ_some, Nat.reduceEqDiff, reduceIte, Nat.reduceAdd, Nat.reduceMul, Nat.reduceSub, reduceCtorEq, Nat.reduceLeDiff, q14, hz] at q14 ⊢
      · rfl
    refine call_flat (rs := [.tmp 2]) [_] Try.func19 rfl rfl ?_ ?_
    rotate_left
    · simp only [go_sem, ↓forkQ_true, ↓forkQ_false, ↓guardQ_some, ↓resQ_val, ↓resQ_unit, ↓resQ_enter, ↓retQ_some, ↓resFQ_val, ↓resFQ_unit, ↓resFQ_enter, ↓retFQ_some, Nat.reduceEqDiff, reduceIte, Nat.reduceAdd, Nat.reduceMul, Nat.reduceSub, reduceCtorEq, Nat.reduceLeDiff, q32]
    · rfl
theorem c21 (l : List Gt) (a : Option Addr) (c : Nat) (h : Heap) (hg : GA h l a) (hl : l.length ≤ 24) : ∃ a' c' h', callW Try.prog SkH 21 [.slice a l.length c] h = some (.slice a' (uppP l).length c', h', true) ∧ Grow h h' ∧ OL h' a' c' 1 (icells (uppP l)) (uppP l).length h.next := by
  by_cases hz : checkZ l = 0
  · have hr : uppP l = bot (stack (Xs l) (Los l) l.length) := by unfold uppP; rw [if_pos hz]
    rw [hr, bot_len]
    have o := (checkZ_ok l).1 hz
    obtain ⟨a1, c1, h1, q32, g1, o1⟩ := c32_ok l a c (h.low h.next) (hg.ext (Ext.low h)) o hl 36 hb36 (Xs l) (Los l) (fun i j k hi hj hk h => by
      have ri := o.rng i hi
      have rj := o.rng j hj
      have rk := o.rng k hk
      rw [c36, turn_eq (by omega) (by omega) (by omega) (by omega) (by omega) (by omega)]
      have e : cr (Xs l) (Los l) i j k = -(((gt l j).x - (gt l i).x) * ((gt l k).lo - (gt l i).lo) - ((gt l k).x - (gt l i).x) * ((gt l j).lo - (gt l i).lo)) := by unfold cr Xs Los; grind
      rw [decide_eq_decide.2 (show (((gt l j).x - (gt l i).x) * ((gt l k).lo - (gt l i).lo) - ((gt l k).x - (gt l i).x) * ((gt l j).lo - (gt l i).lo) < 0 ↔ 0 < cr (Xs l) (Los l) i j k) from by rw [e]; omega)])
    have hw : h1.wr = h.next := g1.wr
    obtain ⟨vs, h9, ⟨rfl, rfl⟩, hc9⟩ := call_done (H := SkH) (rs := [.tmp 2]) (R := fun vs h9 => vs = [.slice a1 (stack (Xs l) (Los l) l.length).length c1] ∧ h9 = h1) (args := [.slice a l.length c]) (h := h) Try.func21 rfl rfl (by
      simp only [go_sem, ↓forkQ_true, ↓forkQ_false, ↓guardQ_some, ↓resQ_val, ↓resQ_unit, ↓resQ_enter, ↓retQ_some, ↓resFQ_val, ↓resFQ_unit, ↓resFQ_enter, ↓retFQ_some, Nat.reduceEqDiff, reduceIte, Nat.reduceAdd, Nat.reduceMul, Nat.reduceSub, reduceCtorEq, Nat.reduceLeDiff, q32, doneQ_ret]
      exact ⟨_, rfl, rfl⟩)
    obtain ⟨a', h', q1, q2, q3⟩ := (show OL h9 a1 c1 1 _ _ h.next from o1).leave (h := h) hw
    exact ⟨a', c1, h', hc9.trans (congrArg some q1), q2, q3⟩
  · have hr : uppP l = [] := by unfold uppP; rw [if_neg hz]
    rw [hr]
    refine ⟨none, 0, h, ?_, Grow.refl h, OL.nil _ _ _⟩
    have q32 : ∀ f, callW Try.prog SkH 32 [.slice a l.length c, .func (.func f) #[] #[]] (h.low h.next) = some (.slice none 0 0, h.low h.next, true) := fun f => by
      refine call_flat (rs := [.tmp 4]) [_] Try.func32 rfl rfl ?_ ?_
      rotate_left
      · have q14 := c14 l a c ((h.low h.next).low (h.low h.next).next) (hg.ext (Ext.low h)) hl
        simp only [go_sem, ↓forkQ_true, ↓forkQ_false, ↓guardQ_some, ↓resQ_val, ↓resQ_unit, ↓resQ_enter, ↓retQ_some, ↓resFQ_val, ↓resFQ_unit, ↓resFQ_enter, ↓retFQ_some, Nat.reduceEqDiff, reduceIte, Nat.reduceAdd, Nat.reduceMul, Nat.reduceSub, reduceCtorEq, Nat.reduceLeDiff, q14, hz] at q14 ⊢
      · rfl
    refine call_flat (rs := [.tmp 2]) [_] Try.func21 rfl rfl ?_ ?_
    rotate_left
    · simp only [go_sem, ↓forkQ_true, ↓forkQ_false, ↓guardQ_some, ↓resQ_val, ↓resQ_unit, ↓resQ_enter, ↓retQ_some, ↓resFQ_val, ↓resFQ_unit, ↓resFQ_enter, ↓retFQ_some, Nat.reduceEqDiff, reduceIte, Nat.reduceAdd, Nat.reduceMul, Nat.reduceSub, reduceCtorEq, Nat.reduceLeDiff, q32]
    · rfl
end Go.Proofs.Ytlblocieleildaa
