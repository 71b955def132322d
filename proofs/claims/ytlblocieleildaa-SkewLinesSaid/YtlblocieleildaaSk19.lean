/- What the reference's Passes and Slopes give. -/
import Derived.Test.YtlblocieleildaaSk5
import Derived.Test.YtlblocieleildaaSk18
set_option linter.unusedSimpArgs false
set_option linter.unusedVariables false
set_option maxRecDepth 20000
namespace Go.Proofs.Ytlblocieleildaa
open Go.Am Go.Plain

def leastR (l : List Gt) : Bd := lR (outr (rlP l) l.length l.length)
def greatR (l : List Gt) : Bd := gR (outr (rgP l) l.length l.length)
theorem outr_mem {f : Nat → Nat → Int × Int} {n : Nat} {p : Int × Int} : p ∈ outr f n n ↔ ∃ i j, i < j ∧ j < n ∧ p = f i j := by
  unfold outr inn
  simp only [List.mem_flatMap, List.mem_range, List.mem_map]
  constructor
  · rintro ⟨i, hi, t, ht, rfl⟩
    exact ⟨i, i + 1 + t, by omega, by omega, rfl⟩
  · rintro ⟨i, j, h1, h2, rfl⟩
    exact ⟨i, by omega, j - (i + 1), by omega, by rw [show i + 1 + (j - (i + 1)) = j by omega]⟩
theorem rlP_pos {l : List Gt} (o : Ok l) : ∀ p, p ∈ outr (rlP l) l.length l.length → 0 < p.2 := by
  intro p hp
  obtain ⟨i, j, h1, h2, rfl⟩ := outr_mem.1 hp
  have := o.lt i j h1 h2
  unfold rlP; dsimp only; omega
theorem rgP_pos {l : List Gt} (o : Ok l) : ∀ p, p ∈ outr (rgP l) l.length l.length → 0 < p.2 := by
  intro p hp
  obtain ⟨i, j, h1, h2, rfl⟩ := outr_mem.1 hp
  have := o.lt i j h1 h2
  unfold rgP; dsimp only; omega
theorem fold_s {f : Bd → Int → Int → Bd} (hf : ∀ b n d, b.s = true → (f b n d).s = true) : ∀ (ps : List (Int × Int)) (b : Bd), b.s = true → (ps.foldl (fun b p => f b p.1 p.2) b).s = true
  | [], _, hb => hb
  | p :: ps, b, hb => fold_s hf ps _ (hf b p.1 p.2 hb)
theorem atLeastZ_s {b : Bd} {n d : Int} (h : b.s = true) : (atLeastZ b n d).s = true := by unfold atLeastZ; split <;> simp [h]
theorem atMostZ_s {b : Bd} {n d : Int} (h : b.s = true) : (atMostZ b n d).s = true := by unfold atMostZ; split <;> simp [h]
theorem leastR_ne {l : List Gt} (o : Ok l) : (leastR l).d ≠ 0 := fold_ne (f := atLeastZ) (fun _ _ _ hb hd => atLeastZ_ne hb hd) (outr (rlP l) l.length l.length) bdL (fun _ => (by show (1 : Int) ≠ 0; decide)) (rlP_pos o) (fold_s (f := atLeastZ) (fun _ _ _ h => atLeastZ_s h) (outr (rlP l) l.length l.length) bdL rfl)
theorem greatR_ne {l : List Gt} (o : Ok l) : (greatR l).d ≠ 0 := fold_ne (f := atMostZ) (fun _ _ _ hb hd => atMostZ_ne hb hd) (outr (rgP l) l.length l.length) bdG (fun _ => (by show (1 : Int) ≠ 0; decide)) (rgP_pos o) (fold_s (f := atMostZ) (fun _ _ _ h => atMostZ_s h) (outr (rgP l) l.length l.length) bdG rfl)
def passR (l : List Gt) : Bool := if checkZ l = 0 then !lessZ (greatR l).n (greatR l).d (leastR l).n (leastR l).d else false
theorem q29_at {l : List Gt} {a : Option Addr} {c : Nat} {H : Heap} (hg : GA H l a) (o : Ok l) (hl : l.length ≤ 24) : callW Try.prog SkH 29 [.slice a l.length c] H = some (.tuple #[.agg #[.int .i64 (leastR l).n, .int .i64 (leastR l).d], .agg #[.int .i64 (greatR l).n, .int .i64 (greatR l).d]], H, true) := c29 l a c H hg o hl
theorem c17 (l : List Gt) (a : Option Addr) (c : Nat) (h : Heap) (hg : GA h l a) (hl : l.length ≤ 24) : callW Try.prog SkH 17 [.slice a l.length c] h = some (.bool (passR l), h, true) := by
  have q15 := c15 l a c (h.low h.next) (hg.ext (Ext.low h)) hl
  refine call_flat (rs := [.tmp 2]) [_] Try.func17 rfl rfl ?_ ?_
  rotate_left
  · by_cases hz : checkZ l = 0
    · have o := (checkZ_ok l).1 hz
      have q29 := q29_at (c := c) (hg.ext (Ext.low h)) o hl
      have q30 := c30 (greatR l).n _ (leastR l).n _ (greatR_ne o) (leastR_ne o)
      have hp : passR l = !lessZ (greatR l).n (greatR l).d (leastR l).n (leastR l).d := by unfold passR; rw [if_pos hz]
      rw [hp]
      simp only [go_sem, ↓forkQ_true, ↓forkQ_false, ↓guardQ_some, ↓resQ_val, ↓resQ_unit, ↓resQ_enter, ↓retQ_some, ↓resFQ_val, ↓resFQ_unit, ↓resFQ_enter, ↓retFQ_some, Nat.reduceEqDiff, reduceIte, Nat.reduceAdd, Nat.reduceMul, Nat.reduceSub, reduceCtorEq, Nat.reduceLeDiff, guardOf, q15, hz, q29, q30]
    · have hp : passR l = false := by unfold passR; rw [if_neg hz]
      rw [hp]
      simp only [go_sem, ↓forkQ_true, ↓forkQ_false, ↓guardQ_some, ↓resQ_val, ↓resQ_unit, ↓resQ_enter, ↓retQ_some, ↓resFQ_val, ↓resFQ_unit, ↓resFQ_enter, ↓retFQ_some, Nat.reduceEqDiff, reduceIte, Nat.reduceAdd, Nat.reduceMul, Nat.reduceSub, reduceCtorEq, Nat.reduceLeDiff, guardOf, q15, hz]
  · rfl
def slR (l : List Gt) : Sr := if checkZ l = 0 then (if l.length = 1 ∨ lessZ (greatR l).n (greatR l).d (leastR l).n (leastR l).d = true then ⟨0, 0, 0, 0, 11⟩ else ⟨(leastR l).n, (leastR l).d, (greatR l).n, (greatR l).d, 0⟩) else ⟨0, 0, 0, 0, checkZ l⟩
theorem c13 (l : List Gt) (a : Option Addr) (c : Nat) (h : Heap) (hg : GA h l a) (hl : l.length ≤ 24) : callW Try.prog SkH 13 [.slice a l.length c] h = some (srv (slR l), h, true) := by
  generalize hH : ((h.low h.next).alloc ⟨[.int .i64 0, .int .i64 0], true, false, none⟩).alloc ⟨[.int .i64 0, .int .i64 0], true, false, none⟩ = H
  have ex : Ext h H := by rw [← hH]; exact ((Ext.low h).alloc _).alloc _
  have hga := hg.ext ex
  have q15 := c15 l a c H hga hl
  refine call_flat (rs := [.cell 2 26, .cell 3 26, .tmp 4]) [_, _, _] Try.func13 rfl rfl ?_ ?_
  rotate_left
  · by_cases hz : checkZ l = 0
    · have o := (checkZ_ok l).1 hz
      have q29 := q29_at (c := c) hga o hl
      have q30 := c30 (greatR l).n _ (leastR l).n _ (greatR_ne o) (leastR_ne o)
      by_cases h1 : l.length = 1
      · have hs : slR l = ⟨0, 0, 0, 0, 11⟩ := by unfold slR; rw [if_pos hz, if_pos (.inl h1)]
        have h1' : ((l.length : Int) = 1) = True := eq_true (by omega)
        rw [hs]
        subst hH
        simp only [go_sem, ↓forkQ_true, ↓forkQ_false, ↓guardQ_some, ↓resQ_val, ↓resQ_unit, ↓resQ_enter, ↓retQ_some, ↓resFQ_val, ↓resFQ_unit, ↓resFQ_enter, ↓retFQ_some, Nat.reduceEqDiff, reduceIte, Nat.reduceAdd, Nat.reduceMul, Nat.reduceSub, reduceCtorEq, Nat.reduceLeDiff, guardOf, q15, hz, h1', q29]
      · have h1' : ((l.length : Int) = 1) = False := eq_false (by omega)
        cases hp : lessZ (greatR l).n (greatR l).d (leastR l).n (leastR l).d
        · have hs : slR l = ⟨(leastR l).n, (leastR l).d, (greatR l).n, (greatR l).d, 0⟩ := by unfold slR; rw [if_pos hz, if_neg (by rw [hp]; simp [h1])]
          rw [hs]
          subst hH
          simp only [go_sem, ↓forkQ_true, ↓forkQ_false, ↓guardQ_some, ↓resQ_val, ↓resQ_unit, ↓resQ_enter, ↓retQ_some, ↓resFQ_val, ↓resFQ_unit, ↓resFQ_enter, ↓retFQ_some, Nat.reduceEqDiff, reduceIte, Nat.reduceAdd, Nat.reduceMul, Nat.reduceSub, reduceCtorEq, Nat.reduceLeDiff, guardOf, q15, hz, h1', q29, q30, hp]
        · have hs : slR l = ⟨0, 0, 0, 0, 11⟩ := by unfold slR; rw [if_pos hz, if_pos (.inr hp)]
          rw [hs]
          subst hH
          simp only [go_sem, ↓forkQ_true, ↓forkQ_false, ↓guardQ_some, ↓resQ_val, ↓resQ_unit, ↓resQ_enter, ↓retQ_some, ↓resFQ_val, ↓resFQ_unit, ↓resFQ_enter, ↓retFQ_some, Nat.reduceEqDiff, reduceIte, Nat.reduceAdd, Nat.reduceMul, Nat.reduceSub, reduceCtorEq, Nat.reduceLeDiff, guardOf, q15, hz, h1', q29, q30, hp]
    · have hs : slR l = ⟨0, 0, 0, 0, checkZ l⟩ := by unfold slR; rw [if_neg hz]
      rw [hs]
      subst hH
      simp only [go_sem, ↓forkQ_true, ↓forkQ_false, ↓guardQ_some, ↓resQ_val, ↓resQ_unit, ↓resQ_enter, ↓retQ_some, ↓resFQ_val, ↓resFQ_unit, ↓resFQ_enter, ↓retFQ_some, Nat.reduceEqDiff, reduceIte, Nat.reduceAdd, Nat.reduceMul, Nat.reduceSub, reduceCtorEq, Nat.reduceLeDiff, guardOf, q15, hz]
  · rfl
end Go.Proofs.Ytlblocieleildaa
