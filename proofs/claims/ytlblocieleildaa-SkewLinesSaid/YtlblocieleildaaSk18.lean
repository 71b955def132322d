/- What Passes and Slopes give, of the program and of the reference. -/
import Derived.Test.YtlblocieleildaaSk12
import Derived.Test.YtlblocieleildaaSk14
import Derived.Test.YtlblocieleildaaSk17
set_option linter.unusedSimpArgs false
set_option linter.unusedVariables false
set_option maxRecDepth 20000
namespace Go.Proofs.Ytlblocieleildaa
open Go.Am Go.Plain

theorem fill0 (p : Nat → Option (Nat × Nat)) (cs : Array Value) : fillA p cs [] = some cs := rfl
attribute [go_sem] fill0
/-- the corners, as numbers of gates -/
def Un (l : List Gt) : List Nat := (stack (Xs l) (His l) l.length).reverse
def Ln (l : List Gt) : List Nat := (stack (Xs l) (Los l) l.length).reverse
theorem lowP_ok {l : List Gt} (hz : checkZ l = 0) : lowP l = natl (Un l) := by unfold lowP; rw [if_pos hz]; rfl
theorem uppP_ok {l : List Gt} (hz : checkZ l = 0) : uppP l = natl (Ln l) := by unfold uppP; rw [if_pos hz]; rfl
theorem Un_lt {l : List Gt} : ∀ k, k ∈ Un l → k < l.length := fun k hk => stack_mem _ k (List.mem_reverse.1 hk)
theorem Ln_lt {l : List Gt} : ∀ k, k ∈ Ln l → k < l.length := fun k hk => stack_mem _ k (List.mem_reverse.1 hk)
theorem Un_len (l : List Gt) : (Un l).length ≤ l.length := by unfold Un; rw [List.length_reverse]; exact stack_len _
theorem Ln_len (l : List Gt) : (Ln l).length ≤ l.length := by unfold Ln; rw [List.length_reverse]; exact stack_len _
def leastP (l : List Gt) : Bd := lF (lAll l (Un l) (Ln l))
def greatP (l : List Gt) : Bd := gF (gAll l (Un l) (Ln l))
def bdv (b : Bd) : Value := .agg #[.bool b.s, .int .i64 b.n, .int .i64 b.d]
theorem fold_ne {f : Bd → Int → Int → Bd} (hf : ∀ b n d, (b.s = true → b.d ≠ 0) → 0 < d → (f b n d).s = true → (f b n d).d ≠ 0) : ∀ (ps : List (Int × Int)) (b : Bd), (b.s = true → b.d ≠ 0) → (∀ p, p ∈ ps → 0 < p.2) → (ps.foldl (fun b p => f b p.1 p.2) b).s = true → (ps.foldl (fun b p => f b p.1 p.2) b).d ≠ 0
  | [], _, hb, _ => hb
  | p :: ps, b, hb, hp => fold_ne hf ps _ (hf b p.1 p.2 hb (hp p (by simp))) (fun q hq => hp q (List.mem_cons_of_mem _ hq))
theorem gAll_pos {l : List Gt} {U L : List Nat} : ∀ p, p ∈ gAll l U L → 0 < p.2 := by
  intro p hp
  unfold gAll at hp
  rw [List.mem_flatMap] at hp
  obtain ⟨i, _, hp⟩ := hp
  rw [List.mem_flatMap] at hp
  obtain ⟨j, _, hp⟩ := hp
  unfold gP at hp
  split at hp
  · rw [List.mem_singleton.1 hp]; dsimp only; omega
  · cases hp
theorem lAll_pos {l : List Gt} {U L : List Nat} : ∀ p, p ∈ lAll l U L → 0 < p.2 := by
  intro p hp
  unfold lAll at hp
  rw [List.mem_flatMap] at hp
  obtain ⟨i, _, hp⟩ := hp
  rw [List.mem_flatMap] at hp
  obtain ⟨j, _, hp⟩ := hp
  unfold lP at hp
  split at hp
  · rw [List.mem_singleton.1 hp]; dsimp only; omega
  · cases hp
theorem leastP_ne (l : List Gt) : (leastP l).s = true → (leastP l).d ≠ 0 := fold_ne (f := atLeastZ) (fun _ _ _ hb hd => atLeastZ_ne hb hd) (lAll l (Un l) (Ln l)) bd0 (fun h => (by cases h)) lAll_pos
theorem greatP_ne (l : List Gt) : (greatP l).s = true → (greatP l).d ≠ 0 := fold_ne (f := atMostZ) (fun _ _ _ hb hd => atMostZ_ne hb hd) (gAll l (Un l) (Ln l)) bd0 (fun h => (by cases h)) gAll_pos
/-- both hulls and the bounds of the slopes, one call after the other -/
theorem slopes_at (l : List Gt) (a : Option Addr) (c : Nat) (H : Heap) (hg : GA H l a) (hl : l.length ≤ 24) (hz : checkZ l = 0) : ∃ a1 c1 a2 c2 h1 h2,
    callW Try.prog SkH 19 [.slice a l.length c] H = some (.slice a1 (Un l).length c1, h1, true) ∧ callW Try.prog SkH 21 [.slice a l.length c] h1 = some (.slice a2 (Ln l).length c2, h2, true) ∧
    callW Try.prog SkH 28 [.slice a l.length c, .slice a1 (Un l).length c1, .slice a2 (Ln l).length c2] h2 = some (.tuple #[bdv (leastP l), bdv (greatP l)], h2, true) ∧ Grow H h2 ∧ GA h2 l a ∧ IA h2 (natl (Un l)) a1 ∧ IA h2 (natl (Ln l)) a2 := by
  obtain ⟨a1, c1, h1, q19, g1, o1⟩ := c19 l a c H hg hl
  obtain ⟨a2, c2, h2, q21, g2, o2⟩ := c21 l a c h1 (hg.grow g1) hl
  have i1 := (OL.ia o1).grow g2
  have i2 := OL.ia o2
  rw [lowP_ok hz] at q19 i1
  rw [uppP_ok hz] at q21 i2
  rw [natl_len] at q19 q21
  have hga := (hg.grow g1).grow g2
  have := Un_len l
  have := Ln_len l
  exact ⟨a1, c1, a2, c2, h1, h2, q19, q21, c28 l (Un l) (Ln l) a a1 a2 c c1 c2 h2 hga i1 i2 ((checkZ_ok l).1 hz) hl Un_lt Ln_lt (by omega) (by omega), g1.trans g2, hga, i1, i2⟩
def passP (l : List Gt) : Bool := if checkZ l = 0 then (!(leastP l).s || (!(greatP l).s || !lessZ (greatP l).n (greatP l).d (leastP l).n (leastP l).d)) else false
theorem c16 (l : List Gt) (a : Option Addr) (c : Nat) (h : Heap) (hg : GA h l a) (hl : l.length ≤ 24) : callW Try.prog SkH 16 [.slice a l.length c] h = some (.bool (passP l), h, true) := by
  have q14 := c14 l a c (h.low h.next) (hg.ext (Ext.low h)) hl
  refine call_flat (rs := [.tmp 2]) [_] Try.func16 rfl rfl ?_ ?_
  rotate_left
  · by_cases hz : checkZ l = 0
    · obtain ⟨a1, c1, a2, c2, h1, h2, q19, q21, q28, g, _⟩ := slopes_at l a c (h.low h.next) (hg.ext (Ext.low h)) hl hz
      have hp : passP l = (!(leastP l).s || (!(greatP l).s || !lessZ (greatP l).n (greatP l).d (leastP l).n (leastP l).d)) := by unfold passP; rw [if_pos hz]
      rw [hp]
      have d1 := leastP_ne l
      have d2 := greatP_ne l
      have hw : h2.wr = h.next := g.wr
      have hn : h.next ≤ h2.next := g.next
      have n1 : (h2.next < h.next) = False := eq_false (by omega)
      have n2 : (h2.next + 1 < h.next) = False := eq_false (by omega)
      generalize leastP l = b at *
      generalize greatP l = k at *
      obtain ⟨s1, bn, bd⟩ := b
      obtain ⟨s2, kn, kd⟩ := k
      dsimp only [bdv] at *
      cases s1
      · simp only [go_sem, ↓forkQ_true, ↓forkQ_false, ↓guardQ_some, ↓resQ_val, ↓resQ_unit, ↓resQ_enter, ↓retQ_some, ↓resFQ_val, ↓resFQ_unit, ↓resFQ_enter, ↓retFQ_some, Nat.reduceEqDiff, reduceIte, Nat.reduceAdd, Nat.reduceMul, Nat.reduceSub, reduceCtorEq, Nat.reduceLeDiff, guardOf, q14, hz, q19, q21, q28, hw, n1, n2]
      · cases s2
        · simp only [go_sem, ↓forkQ_true, ↓forkQ_false, ↓guardQ_some, ↓resQ_val, ↓resQ_unit, ↓resQ_enter, ↓retQ_some, ↓resFQ_val, ↓resFQ_unit, ↓resFQ_enter, ↓retFQ_some, Nat.reduceEqDiff, reduceIte, Nat.reduceAdd, Nat.reduceMul, Nat.reduceSub, reduceCtorEq, Nat.reduceLeDiff, guardOf, q14, hz, q19, q21, q28, hw, n1, n2]
        · have q31 := c31 kn kd bn bd (d2 rfl) (d1 rfl)
          simp only [go_sem, ↓forkQ_true, ↓forkQ_false, ↓guardQ_some, ↓resQ_val, ↓resQ_unit, ↓resQ_enter, ↓retQ_some, ↓resFQ_val, ↓resFQ_unit, ↓resFQ_enter, ↓retFQ_some, Nat.reduceEqDiff, reduceIte, Nat.reduceAdd, Nat.reduceMul, Nat.reduceSub, reduceCtorEq, Nat.reduceLeDiff, guardOf, q14, hz, q19, q21, q28, hw, n1, n2, q31]
    · have hp : passP l = false := by unfold passP; rw [if_neg hz]
      rw [hp]
      simp only [go_sem, ↓forkQ_true, ↓forkQ_false, ↓guardQ_some, ↓resQ_val, ↓resQ_unit, ↓resQ_enter, ↓retQ_some, ↓resFQ_val, ↓resFQ_unit, ↓resFQ_enter, ↓retFQ_some, Nat.reduceEqDiff, reduceIte, Nat.reduceAdd, Nat.reduceMul, Nat.reduceSub, reduceCtorEq, Nat.reduceLeDiff, guardOf, q14, hz]
  · rfl
structure Sr where
  n1 : Int
  d1 : Int
  n2 : Int
  d2 : Int
  e : Int
def slP (l : List Gt) : Sr := if checkZ l = 0 then (if l.length = 1 ∨ passP l = false then ⟨0, 0, 0, 0, 11⟩ else ⟨(leastP l).n, (leastP l).d, (greatP l).n, (greatP l).d, 0⟩) else ⟨0, 0, 0, 0, checkZ l⟩
def srv (r : Sr) : Value := .tuple #[.agg #[.int .i64 r.n1, .int .i64 r.d1], .agg #[.int .i64 r.n2, .int .i64 r.d2], .int .i64 r.e]
theorem c12 (l : List Gt) (a : Option Addr) (c : Nat) (h : Heap) (hg : GA h l a) (hl : l.length ≤ 24) : callW Try.prog SkH 12 [.slice a l.length c] h = some (srv (slP l), h, true) := by
  generalize hH : ((h.low h.next).alloc ⟨[.int .i64 0, .int .i64 0], true, false, none⟩).alloc ⟨[.int .i64 0, .int .i64 0], true, false, none⟩ = H
  have ex : Ext h H := by rw [← hH]; exact ((Ext.low h).alloc _).alloc _
  have hga := hg.ext ex
  have q14 := c14 l a c H hga hl
  have q16 := c16 l a c H hga hl
  refine call_flat (rs := [.cell 2 26, .cell 3 26, .tmp 4]) [_, _, _] Try.func12 rfl rfl ?_ ?_
  rotate_left
  · by_cases hz : checkZ l = 0
    · by_cases h1 : l.length = 1
      · have hs : slP l = ⟨0, 0, 0, 0, 11⟩ := by unfold slP; rw [if_pos hz, if_pos (.inl h1)]
        have h1' : ((l.length : Int) = 1) = True := eq_true (by omega)
        rw [hs]
        subst hH
        simp only [go_sem, ↓forkQ_true, ↓forkQ_false, ↓guardQ_some, ↓resQ_val, ↓resQ_unit, ↓resQ_enter, ↓retQ_some, ↓resFQ_val, ↓resFQ_unit, ↓resFQ_enter, ↓retFQ_some, Nat.reduceEqDiff, reduceIte, Nat.reduceAdd, Nat.reduceMul, Nat.reduceSub, reduceCtorEq, Nat.reduceLeDiff, guardOf, q14, hz, h1']
      · have h1' : ((l.length : Int) = 1) = False := eq_false (by omega)
        cases hp : passP l
        · have hs : slP l = ⟨0, 0, 0, 0, 11⟩ := by unfold slP; rw [if_pos hz, if_pos (.inr hp)]
          rw [hs]
          subst hH
          simp only [go_sem, ↓forkQ_true, ↓forkQ_false, ↓guardQ_some, ↓resQ_val, ↓resQ_unit, ↓resQ_enter, ↓retQ_some, ↓resFQ_val, ↓resFQ_unit, ↓resFQ_enter, ↓retFQ_some, Nat.reduceEqDiff, reduceIte, Nat.reduceAdd, Nat.reduceMul, Nat.reduceSub, reduceCtorEq, Nat.reduceLeDiff, guardOf, q14, hz, h1', q16, hp]
        · have hs : slP l = ⟨(leastP l).n, (leastP l).d, (greatP l).n, (greatP l).d, 0⟩ := by unfold slP; rw [if_pos hz, if_neg (by rw [hp]; simp [h1])]
          rw [hs]
          obtain ⟨a1, c1, a2, c2, k1, k2, q19, q21, q28, g, _⟩ := slopes_at l a c H hga hl hz
          have hw : k2.wr = h.next := g.wr.trans ex.wr
          have hn : h.next + 1 + 1 ≤ k2.next := by have := g.next; rw [← hH] at this; exact this
          have z2 : k2.get h.next = some ⟨[.int .i64 0, .int .i64 0], true, false, none⟩ := (g.get _ (by rw [← hH]; show h.next < h.next + 1 + 1; omega)).trans (by rw [← hH, Heap.get_alloc_ne _ _ (by show h.next ≠ h.next + 1; omega)]; exact Heap.get_alloc_same _ _)
          have z3 : k2.get (h.next + 1) = some ⟨[.int .i64 0, .int .i64 0], true, false, none⟩ := (g.get _ (by rw [← hH]; show h.next + 1 < h.next + 1 + 1; omega)).trans (by rw [← hH]; exact Heap.get_alloc_same _ _)
          have n1 : (k2.next < h.next) = False := eq_false (by omega)
          have n2 : (k2.next + 1 < h.next) = False := eq_false (by omega)
          have n3 : (k2.next = h.next) = False := eq_false (by omega)
          have n4 : (h.next = k2.next) = False := eq_false (by omega)
          have n5 : (k2.next + 1 = h.next) = False := eq_false (by omega)
          have n6 : (h.next = k2.next + 1) = False := eq_false (by omega)
          have n7 : (k2.next = h.next + 1) = False := eq_false (by omega)
          have n8 : (h.next + 1 = k2.next) = False := eq_false (by omega)
          have n9 : (k2.next + 1 = h.next + 1) = False := eq_false (by omega)
          have n10 : (h.next + 1 = k2.next + 1) = False := eq_false (by omega)
          generalize leastP l = b at *
          generalize greatP l = k at *
          obtain ⟨s1, bn, bd⟩ := b
          obtain ⟨s2, kn, kd⟩ := k
          dsimp only [bdv] at *
          subst hH
          simp only [go_sem, ↓forkQ_true, ↓forkQ_false, ↓guardQ_some, ↓resQ_val, ↓resQ_unit, ↓resQ_enter, ↓retQ_some, ↓resFQ_val, ↓resFQ_unit, ↓resFQ_enter, ↓retFQ_some, Nat.reduceEqDiff, reduceIte, Nat.reduceAdd, Nat.reduceMul, Nat.reduceSub, reduceCtorEq, Nat.reduceLeDiff, guardOf, q14, hz, h1', q16, hp, q19, q21, q28, hw, n1, n2, n3, n4, n5, n6, n7, n8, n9, n10, z2, z3]
    · have hs : slP l = ⟨0, 0, 0, 0, checkZ l⟩ := by unfold slP; rw [if_neg hz]
      rw [hs]
      subst hH
      simp only [go_sem, ↓forkQ_true, ↓forkQ_false, ↓guardQ_some, ↓resQ_val, ↓resQ_unit, ↓resQ_enter, ↓retQ_some, ↓resFQ_val, ↓resFQ_unit, ↓resFQ_enter, ↓retFQ_some, Nat.reduceEqDiff, reduceIte, Nat.reduceAdd, Nat.reduceMul, Nat.reduceSub, reduceCtorEq, Nat.reduceLeDiff, guardOf, q14, hz]
  · rfl
end Go.Proofs.Ytlblocieleildaa
