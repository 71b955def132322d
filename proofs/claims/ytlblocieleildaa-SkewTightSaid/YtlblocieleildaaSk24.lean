/- The bounds of the slopes are tight: what the law of tightness asks of them. -/
import Derived.Test.YtlblocieleildaaSk21
import Derived.Test.YtlblocieleildaaSk23
set_option linter.unusedSimpArgs false
set_option linter.unusedVariables false
namespace Go.Proofs.Ytlblocieleildaa
open Go.Am Go.Plain

theorem fr_lt_trans {n d m e r k : Int} (hd : 0 < d) (he : 0 < e) (hk : 0 < k) (h1 : n * e ≤ m * d) (h2 : m * k < r * e) : n * k < r * d := by
  apply Int.not_le.1
  intro h3
  have := fr_trans he hd hk (n := m) (d := e) (m := n) (e := d) (r := r) (k := k)
  have a1 := Int.mul_le_mul_of_nonneg_left h1 (Int.le_of_lt hk)
  have a2 := Int.mul_lt_mul_of_pos_left h2 hd
  have a3 := Int.mul_le_mul_of_nonneg_left h3 (Int.le_of_lt he)
  have b1 : k * (n * e) = e * (n * k) := by grind
  have b2 : k * (m * d) = d * (m * k) := by grind
  have b3 : d * (r * e) = e * (r * d) := by grind
  omega
theorem fr_trans_lt {n d m e r k : Int} (hd : 0 < d) (he : 0 < e) (hk : 0 < k) (h1 : n * e < m * d) (h2 : m * k ≤ r * e) : n * k < r * d := by
  apply Int.not_le.1
  intro h3
  have a1 := Int.mul_lt_mul_of_pos_left h1 hk
  have a2 := Int.mul_le_mul_of_nonneg_left h2 (Int.le_of_lt hd)
  have a3 := Int.mul_le_mul_of_nonneg_left h3 (Int.le_of_lt he)
  have b1 : k * (n * e) = e * (n * k) := by grind
  have b2 : k * (m * d) = d * (m * k) := by grind
  have b3 : d * (r * e) = e * (r * d) := by grind
  omega
theorem less_rp {p q : Int × Int} (hp : RP p) (hq : RP q) : lessZ p.1 p.2 q.1 q.2 = true ↔ p.1 * q.2 < q.1 * p.2 := lessZ_iff ⟨hp.n0, hp.n1⟩ ⟨hp.d0, hp.d1⟩ ⟨hq.n0, hq.n1⟩ ⟨hq.d0, hq.d1⟩
theorem Low.rp {b : Bd} (h : Low b) : RP (b.n, b.d) := ⟨h.d0, h.d1, h.n0, h.n1⟩
theorem low_abs {ps : List (Int × Int)} {b : Bd} {M : Nat} (hb : Low b) (ha : ∃ p, p ∈ ps ∧ b.n * p.2 = p.1 * b.d) (hp : ∀ p, p ∈ ps → 0 < p.2 ∧ p.1.natAbs ≤ M) : b.n.natAbs ≤ M := by
  obtain ⟨p, h1, h2⟩ := ha
  obtain ⟨h3, h4⟩ := hp p h1
  have hd : b.n ∣ b.d * p.1 := ⟨p.2, by rw [h2, Int.mul_comm]⟩
  have hd2 : b.n ∣ p.1 := cop_dvd hb.g hd
  by_cases h0 : p.1 = 0
  · rw [h0, Int.zero_mul] at h2
    rcases Int.mul_eq_zero.1 h2 with h | h
    · rw [h]; exact Nat.zero_le _
    · omega
  · have := Nat.le_of_dvd (by omega) (Int.natAbs_dvd_natAbs.2 hd2)
    omega
theorem grt_fold : ∀ (ps qs : List (Int × Int)) (b : Int × Int), b ∈ qs → (∀ r, r ∈ qs → b.1 * r.2 ≤ r.1 * b.2) → (∀ r, r ∈ qs → RP r) → (∀ r, r ∈ ps → RP r) →
    ∃ p, p ∈ qs ++ ps ∧ ps.foldl (fun b p => if lessZ p.1 p.2 b.1 b.2 = true then p else b) b = p ∧ ∀ r, r ∈ qs ++ ps → p.1 * r.2 ≤ r.1 * p.2
  | [], qs, b, h1, h2, _, _ => ⟨b, by simpa using h1, rfl, by simpa using h2⟩
  | p :: ps, qs, b, h1, h2, h3, h4 => by
    have rp := h4 p (by simp)
    have rb := h3 b h1
    have hl := less_rp rp rb
    have h3' : ∀ r, r ∈ qs ++ [p] → RP r := fun r hr => by
      rcases List.mem_append.1 hr with h | h
      · exact h3 r h
      · rw [List.mem_singleton.1 h]; exact rp
    rw [List.foldl_cons]
    by_cases hc : lessZ p.1 p.2 b.1 b.2 = true
    · rw [if_pos hc]
      have := grt_fold ps (qs ++ [p]) p (by simp) (fun r hr => by
        rcases List.mem_append.1 hr with h | h
        · exact fr_trans rp.d0 rb.d0 (h3 r h).d0 (Int.le_of_lt (hl.1 hc)) (h2 r h)
        · rw [List.mem_singleton.1 h]; exact Int.le_refl _) h3' (fun r hr => h4 r (List.mem_cons_of_mem _ hr))
      rw [List.append_assoc] at this
      exact this
    · rw [if_neg hc]
      have := grt_fold ps (qs ++ [p]) b (List.mem_append_left _ h1) (fun r hr => by
        rcases List.mem_append.1 hr with h | h
        · exact h2 r h
        · rw [List.mem_singleton.1 h]; exact Int.not_lt.1 fun h => hc (hl.2 h)) h3' (fun r hr => h4 r (List.mem_cons_of_mem _ hr))
      rw [List.append_assoc] at this
      exact this
theorem lst_fold : ∀ (ps qs : List (Int × Int)) (b : Int × Int), b ∈ qs → (∀ r, r ∈ qs → r.1 * b.2 ≤ b.1 * r.2) → (∀ r, r ∈ qs → RP r) → (∀ r, r ∈ ps → RP r) →
    ∃ p, p ∈ qs ++ ps ∧ ps.foldl (fun b p => if lessZ b.1 b.2 p.1 p.2 = true then p else b) b = p ∧ ∀ r, r ∈ qs ++ ps → r.1 * p.2 ≤ p.1 * r.2
  | [], qs, b, h1, h2, _, _ => ⟨b, by simpa using h1, rfl, by simpa using h2⟩
  | p :: ps, qs, b, h1, h2, h3, h4 => by
    have rp := h4 p (by simp)
    have rb := h3 b h1
    have hl := less_rp rb rp
    have h3' : ∀ r, r ∈ qs ++ [p] → RP r := fun r hr => by
      rcases List.mem_append.1 hr with h | h
      · exact h3 r h
      · rw [List.mem_singleton.1 h]; exact rp
    rw [List.foldl_cons]
    by_cases hc : lessZ b.1 b.2 p.1 p.2 = true
    · rw [if_pos hc]
      have := lst_fold ps (qs ++ [p]) p (by simp) (fun r hr => by
        rcases List.mem_append.1 hr with h | h
        · exact fr_trans (h3 r h).d0 rb.d0 rp.d0 (h2 r h) (Int.le_of_lt (hl.1 hc))
        · rw [List.mem_singleton.1 h]; exact Int.le_refl _) h3' (fun r hr => h4 r (List.mem_cons_of_mem _ hr))
      rw [List.append_assoc] at this
      exact this
    · rw [if_neg hc]
      have := lst_fold ps (qs ++ [p]) b (List.mem_append_left _ h1) (fun r hr => by
        rcases List.mem_append.1 hr with h | h
        · exact h2 r h
        · rw [List.mem_singleton.1 h]; exact Int.not_lt.1 fun h => hc (hl.2 h)) h3' (fun r hr => h4 r (List.mem_cons_of_mem _ hr))
      rw [List.append_assoc] at this
      exact this
theorem rg_rp {l : List Gt} (o : Ok l) : ∀ p, p ∈ outr (rgP l) l.length l.length → RP p ∧ p.1.natAbs ≤ 2147483648 := fun p hp => by
  obtain ⟨i, j, h1, h3, rfl⟩ := outr_mem.1 hp
  have ri := o.rng i (by omega)
  have rj := o.rng j h3
  exact ⟨(rp_of o (by omega) h3 (o.lt i j h1 h3)).1, by unfold rgP; dsimp only; omega⟩
theorem rl_rp {l : List Gt} (o : Ok l) : ∀ p, p ∈ outr (rlP l) l.length l.length → RP p ∧ p.1.natAbs ≤ 2147483648 := fun p hp => by
  obtain ⟨i, j, h1, h3, rfl⟩ := outr_mem.1 hp
  have ri := o.rng i (by omega)
  have rj := o.rng j h3
  exact ⟨(rp_of o (by omega) h3 (o.lt i j h1 h3)).2, by unfold rlP; dsimp only; omega⟩
theorem grtF_min {l : List Gt} (o : Ok l) (h2 : 2 ≤ l.length) : ∃ p, p ∈ outr (rgP l) l.length l.length ∧ grtF (outr (rgP l) l.length l.length) = p ∧ ∀ r, r ∈ outr (rgP l) l.length l.length → p.1 * r.2 ≤ r.1 * p.2 := by
  have hr := rg_rp o
  have hm : rgP l 0 1 ∈ outr (rgP l) l.length l.length := outr_mem.2 ⟨0, 1, by omega, by omega, rfl⟩
  generalize outr (rgP l) l.length l.length = ps at *
  cases ps with
  | nil => cases hm
  | cons p ps =>
    obtain ⟨rp, hb⟩ := hr p (by simp)
    have := grt_fold ps [p] p (by simp) (fun r h => by rw [List.mem_singleton.1 h]; exact Int.le_refl _) (fun r h => by rw [List.mem_singleton.1 h]; exact rp) (fun r h => (hr r (List.mem_cons_of_mem _ h)).1)
    have e : lessZ p.1 p.2 1099511627776 1 = true := (less_rp rp (q := (1099511627776, 1)) ⟨by decide, by decide, by decide, by decide⟩).2 (by have := rp.d0; dsimp only; omega)
    unfold grtF
    rw [List.foldl_cons, if_pos e]
    exact this
theorem lstF_max {l : List Gt} (o : Ok l) (h2 : 2 ≤ l.length) : ∃ p, p ∈ outr (rlP l) l.length l.length ∧ lstF (outr (rlP l) l.length l.length) = p ∧ ∀ r, r ∈ outr (rlP l) l.length l.length → r.1 * p.2 ≤ p.1 * r.2 := by
  have hr := rl_rp o
  have hm : rlP l 0 1 ∈ outr (rlP l) l.length l.length := outr_mem.2 ⟨0, 1, by omega, by omega, rfl⟩
  generalize outr (rlP l) l.length l.length = ps at *
  cases ps with
  | nil => cases hm
  | cons p ps =>
    obtain ⟨rp, hb⟩ := hr p (by simp)
    have := lst_fold ps [p] p (by simp) (fun r h => by rw [List.mem_singleton.1 h]; exact Int.le_refl _) (fun r h => by rw [List.mem_singleton.1 h]; exact rp) (fun r h => (hr r (List.mem_cons_of_mem _ h)).1)
    have e : lessZ (-1099511627776) 1 p.1 p.2 = true := (less_rp (p := (-1099511627776, 1)) ⟨by decide, by decide, by decide, by decide⟩ rp).2 (by have := rp.d0; dsimp only; omega)
    unfold lstF
    rw [List.foldl_cons, if_pos e]
    exact this
theorem hitS_of {n d : Int} {ps : List (Int × Int)} (h : ∃ p, p ∈ ps ∧ n * p.2 = p.1 * d) : hitS n d ps = true := by
  obtain ⟨p, h1, h2⟩ := h
  unfold hitS
  rw [List.any_eq_true]
  exact ⟨p, h1, decide_eq_true h2⟩
theorem w7 (l : List Gt) (a : Option Addr) (c : Nat) (h : Heap) (hg : GA h l a) : ∃ code, Try.f7.body = some code ∧ Wp Try.prog cfT (SkH 7) code (doneQ Try.prog Try.f7.results.toList (fun vs _ => vs = [.bool true])) (Env.ofList [.slice a l.length c] 0) (h.low h.next) := by
  by_cases hl : l.length ≤ 24
  · by_cases hz : checkZ l = 0
    · by_cases h2 : 2 ≤ l.length
      · have o := (checkZ_ok l).1 hz
        have q12 := c12 l a c (h.low h.next) (hg.ext (Ext.low h)) hl
        have gr := greatR_min o h2
        have kr := leastR_max o h2
        have hp : passP l = !lessZ (greatR l).n (greatR l).d (leastR l).n (leastR l).d := by rw [pass_eq]; unfold passR; rw [if_pos hz]
        have hll := less_low gr.low kr.low
        have h1 : ¬ l.length = 1 := by omega
        cases hr : lessZ (greatR l).n (greatR l).d (leastR l).n (leastR l).d
        · rw [hr] at hp
          have hle : (leastR l).n * (greatR l).d ≤ (greatR l).n * (leastR l).d := Int.not_lt.1 fun h => by rw [hll.2 h] at hr; cases hr
          have hs : slP l = ⟨(leastR l).n, (leastR l).d, (greatR l).n, (greatR l).d, 0⟩ := by
            rw [sl_eq]; unfold slR; rw [if_pos hz, if_neg (by rw [hr]; simp [h1])]
          rw [hs] at q12
          have b1 := low_abs kr.low kr.att (fun p hp => ⟨(rl_rp o p hp).1.d0, (rl_rp o p hp).2⟩)
          have b2 := low_abs gr.low gr.att (fun p hp => ⟨(rg_rp o p hp).1.d0, (rg_rp o p hp).2⟩)
          refine w7_ok l a c h hg o hl h2 (leastR l).n (leastR l).d (greatR l).n (greatR l).d q12 (by omega) ⟨kr.low.d0, kr.low.d1⟩ kr.low.g (by omega) ⟨gr.low.d0, gr.low.d1⟩ gr.low.g (fun i j hi hj => ?_) (fun i j hi hj => ?_) (hitS_of kr.att) (hitS_of gr.att) hr hp
          · have hm : rlP l i j ∈ outr (rlP l) l.length l.length := outr_mem.2 ⟨i, j, hi, hj, rfl⟩
            have := less_rp kr.low.rp (rl_rp o _ hm).1
            cases hx : lessZ (leastR l).n (leastR l).d ((gt l j).lo - (gt l i).hi) ((gt l j).x - (gt l i).x)
            · rfl
            · have h3 := this.1 hx
              have h4 := kr.ge _ hm
              dsimp only at h3
              omega
          · have hm : rgP l i j ∈ outr (rgP l) l.length l.length := outr_mem.2 ⟨i, j, hi, hj, rfl⟩
            have := less_rp (rg_rp o _ hm).1 gr.low.rp
            cases hx : lessZ ((gt l j).hi - (gt l i).lo) ((gt l j).x - (gt l i).x) (greatR l).n (greatR l).d
            · rfl
            · have h3 := this.1 hx
              have h4 := gr.le _ hm
              dsimp only at h3
              omega
        · rw [hr] at hp
          have hs : slP l = ⟨0, 0, 0, 0, 11⟩ := by
            rw [sl_eq]; unfold slR; rw [if_pos hz, if_pos (.inr hr)]
          rw [hs] at q12
          refine w7_none l a c h hg o hl h2 _ _ _ _ q12 ?_ hp
          obtain ⟨p, p1, p2, p3⟩ := grtF_min o h2
          obtain ⟨q, q1, q2, q3⟩ := lstF_max o h2
          rw [p2, q2]
          have rp := (rg_rp o p p1).1
          have rq := (rl_rp o q q1).1
          refine (less_rp rp rq).2 ?_
          obtain ⟨p', p4, p5⟩ := gr.att
          obtain ⟨q', q4, q5⟩ := kr.att
          have e1 : p.1 * (greatR l).d ≤ (greatR l).n * p.2 := fr_trans rp.d0 (rg_rp o p' p4).1.d0 gr.low.d0 (p3 p' p4) (Int.le_of_eq p5.symm)
          have e2 : (leastR l).n * q.2 ≤ q.1 * (leastR l).d := fr_trans kr.low.d0 (rl_rp o q' q4).1.d0 rq.d0 (Int.le_of_eq q5) (q3 q' q4)
          have e3 := hll.1 hr
          exact fr_lt_trans rp.d0 gr.low.d0 rq.d0 e1 (fr_trans_lt gr.low.d0 kr.low.d0 rq.d0 e3 e2)
      · refine ⟨_, rfl, ?_⟩
        have t10 : cfT 10 = callW Try.prog SkH 10 := cfT_ne (by decide)
        have t14 : cfT 14 = callW Try.prog SkH 14 := cfT_ne (by decide)
        have hf : ((l.length : Int) ≤ 24) = True := eq_true (by omega)
        have h2f : ((l.length : Int) < 2) = True := eq_true (by omega)
        have q14 := c14 l a c (h.low h.next) (hg.ext (Ext.low h)) hl
        simp only [go_sem, ↓forkQ_true, ↓forkQ_false, ↓guardQ_some, ↓resQ_val, ↓resQ_unit, ↓resQ_enter, ↓retQ_some, ↓resFQ_val, ↓resFQ_unit, ↓resFQ_enter, ↓retFQ_some, Nat.reduceEqDiff, reduceIte, Nat.reduceAdd, Nat.reduceMul, Nat.reduceSub, reduceCtorEq, Nat.reduceLeDiff, guardOf, t10, t14, c10, hf, q14, hz, h2f, cfT_at, doneQ_ret]
        exact ⟨_, rfl, rfl⟩
    · refine ⟨_, rfl, ?_⟩
      have t10 : cfT 10 = callW Try.prog SkH 10 := cfT_ne (by decide)
      have t14 : cfT 14 = callW Try.prog SkH 14 := cfT_ne (by decide)
      have hf : ((l.length : Int) ≤ 24) = True := eq_true (by omega)
      have q14 := c14 l a c (h.low h.next) (hg.ext (Ext.low h)) hl
      simp only [go_sem, ↓forkQ_true, ↓forkQ_false, ↓guardQ_some, ↓resQ_val, ↓resQ_unit, ↓resQ_enter, ↓retQ_some, ↓resFQ_val, ↓resFQ_unit, ↓resFQ_enter, ↓retFQ_some, Nat.reduceEqDiff, reduceIte, Nat.reduceAdd, Nat.reduceMul, Nat.reduceSub, reduceCtorEq, Nat.reduceLeDiff, guardOf, t10, t14, c10, hf, q14, hz, cfT_at, doneQ_ret]
      exact ⟨_, rfl, rfl⟩
  · refine ⟨_, rfl, ?_⟩
    have t10 : cfT 10 = callW Try.prog SkH 10 := cfT_ne (by decide)
    have hf : ((l.length : Int) ≤ 24) = False := eq_false (by omega)
    simp only [go_sem, ↓forkQ_true, ↓forkQ_false, ↓guardQ_some, ↓resQ_val, ↓resQ_unit, ↓resQ_enter, ↓retQ_some, ↓resFQ_val, ↓resFQ_unit, ↓resFQ_enter, ↓retFQ_some, Nat.reduceEqDiff, reduceIte, Nat.reduceAdd, Nat.reduceMul, Nat.reduceSub, reduceCtorEq, Nat.reduceLeDiff, guardOf, t10, c10, hf, cfT_at, doneQ_ret]
    exact ⟨_, rfl, rfl⟩
end Go.Proofs.Ytlblocieleildaa
