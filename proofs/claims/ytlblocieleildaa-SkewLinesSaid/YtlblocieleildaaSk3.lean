/- What the small functions with loops give. -/
import Derived.Test.YtlblocieleildaaSk2
set_option linter.unusedSimpArgs false
set_option linter.unusedVariables false
namespace Go.Proofs.Ytlblocieleildaa
open Go.Am

structure I47 (a b : Int) (h : Heap) (s : Int × Int) (e : Env) (h1 : Heap) : Prop where
  hh : h1 = h.low h.next
  e0 : e.get 0 = .int .i64 s.1
  e1 : e.get 1 = .int .i64 s.2
  x0 : 0 ≤ s.1
  y0 : 0 ≤ s.2
  g : Int.gcd s.1 s.2 = Int.gcd a b
theorem gcd_tmod (x y : Int) : Int.gcd (y.tmod x) x = Int.gcd x y := by
  unfold Int.gcd
  rw [Int.natAbs_tmod, Nat.gcd_rec x.natAbs y.natAbs]
theorem c47 (a b : Int) (ha : -9223372036854775807 ≤ a ∧ a ≤ 9223372036854775807) (hb : 0 < b) (h : Heap) : callW Try.prog SkH 47 [.int .i64 a, .int .i64 b] h = some (.int .i64 (Int.gcd a b), h, true) := by
  have go : ∀ a', 0 ≤ a' → Int.gcd a' b = Int.gcd a b → ∀ e : Env, e.get 0 = .int .i64 a' → e.get 1 = .int .i64 b → I47 a b h (a', b) e (h.low h.next) :=
    fun a' h0 hg e e0 e1 => ⟨rfl, e0, e1, h0, Int.le_of_lt hb, hg⟩
  have step : ∀ (s : Int × Int) (e : Env) (h1 : Heap), I47 a b h s e h1 → ∀ (x y : Int), s = (x, y) → (x = 0 → y = (Int.gcd a b : Int)) ∧ (x ≠ 0 → (y.tmod x).toNat < x.toNat ∧ 0 ≤ y.tmod x ∧ Int.gcd (y.tmod x) x = Int.gcd a b) := by
    rintro s e h1 ⟨_, _, _, hx, hy, hg⟩ x y rfl
    dsimp only at hx hy hg
    refine ⟨fun hx0 => ?_, fun hx0 => ?_⟩
    · subst hx0; rw [← hg]; simp; omega
    · have h1 := Int.tmod_lt_of_pos y (show 0 < x by omega)
      have h2 := Int.tmod_nonneg x hy
      exact ⟨by omega, h2, (gcd_tmod x y).trans hg⟩
  refine call_flat (rs := [.tmp 4]) [_] Try.func47 rfl rfl ?_ ?_
  rotate_left
  · by_cases hna : a < 0
    · have hw : wrapF .i64 (0 - a) = -a := by rw [w64_in _ (by omega)]; omega
      simp only [go_sem, ↓forkQ_true, ↓forkQ_false, ↓guardQ_some, ↓resQ_val, ↓resQ_unit, ↓resQ_enter, ↓retQ_some, ↓resFQ_val, ↓resFQ_unit, ↓resFQ_enter, ↓retFQ_some, Nat.reduceEqDiff, reduceIte, Nat.reduceAdd, Nat.reduceMul, Nat.reduceSub, reduceCtorEq, Nat.reduceLeDiff, guardOf, hna, hw]
      refine wq_rounds (fun s => s.1.toNat) (I47 a b h) ?_ (-a, b) _ _ (go _ (by omega) (by simp) _ ?_ ?_)
      · rintro ⟨x, y⟩ e h1 hi
        obtain ⟨k1, k2⟩ := step _ _ _ hi x y rfl
        obtain ⟨rfl, e0, e1, hx, hy, hg⟩ := hi
        dsimp only at e0 e1 hx hy hg
        by_cases hx0 : x = 0
        · have hyg := k1 hx0
          subst hx0
          simp only [go_sem, ↓forkQ_true, ↓forkQ_false, ↓guardQ_some, ↓resQ_val, ↓resQ_unit, ↓resQ_enter, ↓retQ_some, ↓resFQ_val, ↓resFQ_unit, ↓resFQ_enter, ↓retFQ_some, Nat.reduceEqDiff, reduceIte, Nat.reduceAdd, Nat.reduceMul, Nat.reduceSub, reduceCtorEq, Nat.reduceLeDiff, guardOf, e0, e1, ← hyg]
        · simp only [go_sem, ↓forkQ_true, ↓forkQ_false, ↓guardQ_some, ↓resQ_val, ↓resQ_unit, ↓resQ_enter, ↓retQ_some, ↓resFQ_val, ↓resFQ_unit, ↓resFQ_enter, ↓retFQ_some, Nat.reduceEqDiff, reduceIte, Nat.reduceAdd, Nat.reduceMul, Nat.reduceSub, reduceCtorEq, Nat.reduceLeDiff, guardOf, e0, e1, hx0]
          obtain ⟨k3, k4, k5⟩ := k2 hx0
          exact ⟨(y.tmod x, x), k3, rfl, (by simp only [go_sem, ↓forkQ_true, ↓forkQ_false, ↓guardQ_some, ↓resQ_val, ↓resQ_unit, ↓resQ_enter, ↓retQ_some, ↓resFQ_val, ↓resFQ_unit, ↓resFQ_enter, ↓retFQ_some, Nat.reduceEqDiff, reduceIte, Nat.reduceAdd, Nat.reduceMul, Nat.reduceSub, reduceCtorEq, Nat.reduceLeDiff, guardOf]), (by simp only [go_sem, ↓forkQ_true, ↓forkQ_false, ↓guardQ_some, ↓resQ_val, ↓resQ_unit, ↓resQ_enter, ↓retQ_some, ↓resFQ_val, ↓resFQ_unit, ↓resFQ_enter, ↓retFQ_some, Nat.reduceEqDiff, reduceIte, Nat.reduceAdd, Nat.reduceMul, Nat.reduceSub, reduceCtorEq, Nat.reduceLeDiff, guardOf]), k4, hx, k5⟩
      · simp only [go_sem, ↓forkQ_true, ↓forkQ_false, ↓guardQ_some, ↓resQ_val, ↓resQ_unit, ↓resQ_enter, ↓retQ_some, ↓resFQ_val, ↓resFQ_unit, ↓resFQ_enter, ↓retFQ_some, Nat.reduceEqDiff, reduceIte, Nat.reduceAdd, Nat.reduceMul, Nat.reduceSub, reduceCtorEq, Nat.reduceLeDiff, guardOf]
      · simp only [go_sem, ↓forkQ_true, ↓forkQ_false, ↓guardQ_some, ↓resQ_val, ↓resQ_unit, ↓resQ_enter, ↓retQ_some, ↓resFQ_val, ↓resFQ_unit, ↓resFQ_enter, ↓retFQ_some, Nat.reduceEqDiff, reduceIte, Nat.reduceAdd, Nat.reduceMul, Nat.reduceSub, reduceCtorEq, Nat.reduceLeDiff, guardOf]
    · simp only [go_sem, ↓forkQ_true, ↓forkQ_false, ↓guardQ_some, ↓resQ_val, ↓resQ_unit, ↓resQ_enter, ↓retQ_some, ↓resFQ_val, ↓resFQ_unit, ↓resFQ_enter, ↓retFQ_some, Nat.reduceEqDiff, reduceIte, Nat.reduceAdd, Nat.reduceMul, Nat.reduceSub, reduceCtorEq, Nat.reduceLeDiff, guardOf, hna]
      refine wq_rounds (fun s => s.1.toNat) (I47 a b h) ?_ (a, b) _ _ (go _ (by omega) rfl _ ?_ ?_)
      · rintro ⟨x, y⟩ e h1 hi
        obtain ⟨k1, k2⟩ := step _ _ _ hi x y rfl
        obtain ⟨rfl, e0, e1, hx, hy, hg⟩ := hi
        dsimp only at e0 e1 hx hy hg
        by_cases hx0 : x = 0
        · have hyg := k1 hx0
          subst hx0
          simp only [go_sem, ↓forkQ_true, ↓forkQ_false, ↓guardQ_some, ↓resQ_val, ↓resQ_unit, ↓resQ_enter, ↓retQ_some, ↓resFQ_val, ↓resFQ_unit, ↓resFQ_enter, ↓retFQ_some, Nat.reduceEqDiff, reduceIte, Nat.reduceAdd, Nat.reduceMul, Nat.reduceSub, reduceCtorEq, Nat.reduceLeDiff, guardOf, e0, e1, ← hyg]
        · simp only [go_sem, ↓forkQ_true, ↓forkQ_false, ↓guardQ_some, ↓resQ_val, ↓resQ_unit, ↓resQ_enter, ↓retQ_some, ↓resFQ_val, ↓resFQ_unit, ↓resFQ_enter, ↓retFQ_some, Nat.reduceEqDiff, reduceIte, Nat.reduceAdd, Nat.reduceMul, Nat.reduceSub, reduceCtorEq, Nat.reduceLeDiff, guardOf, e0, e1, hx0]
          obtain ⟨k3, k4, k5⟩ := k2 hx0
          exact ⟨(y.tmod x, x), k3, rfl, (by simp only [go_sem, ↓forkQ_true, ↓forkQ_false, ↓guardQ_some, ↓resQ_val, ↓resQ_unit, ↓resQ_enter, ↓retQ_some, ↓resFQ_val, ↓resFQ_unit, ↓resFQ_enter, ↓retFQ_some, Nat.reduceEqDiff, reduceIte, Nat.reduceAdd, Nat.reduceMul, Nat.reduceSub, reduceCtorEq, Nat.reduceLeDiff, guardOf]), (by simp only [go_sem, ↓forkQ_true, ↓forkQ_false, ↓guardQ_some, ↓resQ_val, ↓resQ_unit, ↓resQ_enter, ↓retQ_some, ↓resFQ_val, ↓resFQ_unit, ↓resFQ_enter, ↓retFQ_some, Nat.reduceEqDiff, reduceIte, Nat.reduceAdd, Nat.reduceMul, Nat.reduceSub, reduceCtorEq, Nat.reduceLeDiff, guardOf]), k4, hx, k5⟩
      · simp only [go_sem, ↓forkQ_true, ↓forkQ_false, ↓guardQ_some, ↓resQ_val, ↓resQ_unit, ↓resQ_enter, ↓retQ_some, ↓resFQ_val, ↓resFQ_unit, ↓resFQ_enter, ↓retFQ_some, Nat.reduceEqDiff, reduceIte, Nat.reduceAdd, Nat.reduceMul, Nat.reduceSub, reduceCtorEq, Nat.reduceLeDiff, guardOf]
      · simp only [go_sem, ↓forkQ_true, ↓forkQ_false, ↓guardQ_some, ↓resQ_val, ↓resQ_unit, ↓resQ_enter, ↓retQ_some, ↓resFQ_val, ↓resFQ_unit, ↓resFQ_enter, ↓retFQ_some, Nat.reduceEqDiff, reduceIte, Nat.reduceAdd, Nat.reduceMul, Nat.reduceSub, reduceCtorEq, Nat.reduceLeDiff, guardOf]
  · rfl
theorem w_tdiv (n g : Int) (hn : -9223372036854775807 ≤ n ∧ n ≤ 9223372036854775807) : wrapF .i64 (n.tdiv g) = n.tdiv g := by
  refine w64_in _ ?_
  have h1 : (n.tdiv g).natAbs ≤ n.natAbs := by rw [Int.natAbs_tdiv]; exact Nat.div_le_self _ _
  omega
def quoN (n d : Int) : Int := n.tdiv (Int.gcd n d)
def quoD (n d : Int) : Int := d.tdiv (Int.gcd n d)
theorem gcd_ne {n d : Int} (hd : 0 < d) : ((Int.gcd n d : Nat) : Int) ≠ 0 := by
  have : Int.gcd n d ≠ 0 := fun h => by rw [Int.gcd_eq_zero_iff] at h; omega
  omega
theorem c46 (n d : Int) (hn : -9223372036854775807 ≤ n ∧ n ≤ 9223372036854775807) (hd : 0 < d ∧ d ≤ 9223372036854775807) (h : Heap) : callW Try.prog SkH 46 [.int .i64 n, .int .i64 d] h = some (.agg #[.int .i64 (quoN n d), .int .i64 (quoD n d)], h, true) := by
  unfold quoN quoD
  have hg := gcd_ne (n := n) hd.1
  refine call_flat (rs := [.cell 4 26]) [_] Try.func46 rfl rfl ?_ ?_
  rotate_left
  · simp only [go_sem, ↓forkQ_true, ↓forkQ_false, ↓guardQ_some, ↓resQ_val, ↓resQ_unit, ↓resQ_enter, ↓retQ_some, ↓resFQ_val, ↓resFQ_unit, ↓resFQ_enter, ↓retFQ_some, Nat.reduceEqDiff, reduceIte, Nat.reduceAdd, Nat.reduceMul, Nat.reduceSub, reduceCtorEq, Nat.reduceLeDiff, guardOf, c47 n d hn hd.1, hg, w_tdiv n _ hn, w_tdiv d _ (by omega)]
    done
  · rfl
end Go.Proofs.Ytlblocieleildaa
