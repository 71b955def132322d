/- The corners give the same bounds of slopes as all gates. -/
import Derived.Test.YtlblocieleildaaSk19
import Derived.Test.YtlblocieleildaaSk20
set_option linter.unusedSimpArgs false
set_option linter.unusedVariables false
namespace Go.Proofs.Ytlblocieleildaa
open Go.Am Go.Plain

/-- a line of slope p / q that is above the lower end of i can be below the upper end of j -/
def Fe (l : List Gt) (p q : Int) (i j : Nat) : Prop := q * (gt l i).lo - p * (gt l i).x ≤ q * (gt l j).hi - p * (gt l j).x
theorem Un_mem {l : List Gt} {k : Nat} : k ∈ Un l ↔ k ∈ stack (Xs l) (His l) l.length := List.mem_reverse
theorem Ln_mem {l : List Gt} {k : Nat} : k ∈ Ln l ↔ k ∈ stack (Xs l) (Los l) l.length := List.mem_reverse
theorem fe_corners {l : List Gt} (o : Ok l) {p q : Int} (hq : 0 ≤ q) (h : ∀ i, i ∈ Ln l → ∀ j, j ∈ Un l → Fe l p q i j) : ∀ i j, i < l.length → j < l.length → Fe l p q i j := by
  intro i j hi hj
  obtain ⟨j', h1, h2⟩ := corner_min (x := Xs l) (y := His l) o.lt p q hq j hj
  obtain ⟨i', h3, h4⟩ := corner_min (x := Xs l) (y := Los l) o.lt (-p) q hq i hi
  have h5 := h i' (Ln_mem.2 h3) j' (Un_mem.2 h1)
  unfold Fe at h5 ⊢
  unfold Xs His at h2
  unfold Xs Los at h4
  rw [Int.mul_neg, Int.mul_neg, Int.neg_mul, Int.neg_mul] at h4
  omega
theorem fe_g {l : List Gt} {p q : Int} {i j : Nat} : p * ((gt l j).x - (gt l i).x) ≤ ((gt l j).hi - (gt l i).lo) * q ↔ Fe l p q i j := by
  unfold Fe
  rw [Int.mul_comm _ q, Int.mul_sub, Int.mul_sub]
  omega
theorem fe_l {l : List Gt} {p q : Int} {i j : Nat} : ((gt l i).lo - (gt l j).hi) * q ≤ p * ((gt l i).x - (gt l j).x) ↔ Fe l p q i j := by
  unfold Fe
  rw [Int.mul_comm _ q, Int.mul_sub, Int.mul_sub]
  omega
theorem gAll_mem {l : List Gt} {U L : List Nat} {p : Int × Int} : p ∈ gAll l U L ↔ ∃ i j, i ∈ L ∧ j ∈ U ∧ (gt l i).x < (gt l j).x ∧ p = ((gt l j).hi - (gt l i).lo, (gt l j).x - (gt l i).x) := by
  unfold gAll gP
  simp only [List.mem_flatMap]
  constructor
  · rintro ⟨i, hi, j, hj, h⟩
    split at h
    · exact ⟨i, j, hi, hj, ‹_›, List.mem_singleton.1 h⟩
    · cases h
  · rintro ⟨i, j, hi, hj, hx, rfl⟩
    exact ⟨i, hi, j, hj, by rw [if_pos hx]; exact List.mem_singleton.2 rfl⟩
theorem lAll_mem {l : List Gt} {U L : List Nat} {p : Int × Int} : p ∈ lAll l U L ↔ ∃ i j, i ∈ L ∧ j ∈ U ∧ (gt l j).x < (gt l i).x ∧ p = ((gt l i).lo - (gt l j).hi, (gt l i).x - (gt l j).x) := by
  unfold lAll lP
  simp only [List.mem_flatMap]
  constructor
  · rintro ⟨i, hi, j, hj, h⟩
    split at h
    · exact ⟨i, j, hi, hj, ‹_›, List.mem_singleton.1 h⟩
    · cases h
  · rintro ⟨i, j, hi, hj, hx, rfl⟩
    exact ⟨i, hi, j, hj, by rw [if_pos hx]; exact List.mem_singleton.2 rfl⟩
theorem Ok.inj {l : List Gt} (o : Ok l) {i j : Nat} (hi : i < l.length) (hj : j < l.length) (h : (gt l i).x = (gt l j).x) : i = j := by
  rcases Nat.lt_trichotomy i j with h1 | h1 | h1
  · have := o.lt i j h1 hj; omega
  · exact h1
  · have := o.lt j i h1 hi; omega
theorem Ok.of_x {l : List Gt} (o : Ok l) {i j : Nat} (hi : i < l.length) (hj : j < l.length) (h : (gt l i).x < (gt l j).x) : i < j := by
  rcases Nat.lt_trichotomy i j with h1 | h1 | h1
  · exact h1
  · subst h1; omega
  · have := o.lt j i h1 hi; omega
theorem fe_same {l : List Gt} (o : Ok l) {p q : Int} (hq : 0 ≤ q) {i : Nat} (hi : i < l.length) : Fe l p q i i := by
  unfold Fe
  have := Int.mul_le_mul_of_nonneg_left (o.rng i hi).2.2.2.1 hq
  omega
theorem fe_of_pairs {l : List Gt} (o : Ok l) {p q : Int} (hq : 0 ≤ q) {U L : List Nat} (hU : ∀ k, k ∈ U → k < l.length) (hL : ∀ k, k ∈ L → k < l.length) (hg : ∀ r, r ∈ gAll l U L → p * r.2 ≤ r.1 * q) (hl : ∀ r, r ∈ lAll l U L → r.1 * q ≤ p * r.2) : ∀ i, i ∈ L → ∀ j, j ∈ U → Fe l p q i j := by
  intro i hi j hj
  by_cases h1 : (gt l i).x < (gt l j).x
  · exact fe_g.1 (hg _ (gAll_mem.2 ⟨i, j, hi, hj, h1, rfl⟩))
  by_cases h2 : (gt l j).x < (gt l i).x
  · exact fe_l.1 (hl _ (lAll_mem.2 ⟨i, j, hi, hj, h2, rfl⟩))
  have := o.inj (hL i hi) (hU j hj) (by omega)
  subst this
  exact fe_same o hq (hL i hi)
theorem ref_of_fe {l : List Gt} {p q : Int} (h : ∀ i j, i < l.length → j < l.length → Fe l p q i j) : (∀ r, r ∈ outr (rgP l) l.length l.length → p * r.2 ≤ r.1 * q) ∧ (∀ r, r ∈ outr (rlP l) l.length l.length → r.1 * q ≤ p * r.2) := by
  constructor
  · intro r hr
    obtain ⟨i, j, h1, h2, rfl⟩ := outr_mem.1 hr
    exact fe_g.2 (h i j (by omega) h2)
  · intro r hr
    obtain ⟨i, j, h1, h2, rfl⟩ := outr_mem.1 hr
    exact fe_l.2 (h j i h2 (by omega))
theorem fe_of_ref {l : List Gt} (o : Ok l) {p q : Int} (hq : 0 ≤ q) (hg : ∀ r, r ∈ outr (rgP l) l.length l.length → p * r.2 ≤ r.1 * q) (hl : ∀ r, r ∈ outr (rlP l) l.length l.length → r.1 * q ≤ p * r.2) : ∀ i j, i < l.length → j < l.length → Fe l p q i j := by
  intro i j hi hj
  rcases Nat.lt_trichotomy i j with h | h | h
  · exact fe_g.1 (hg _ (outr_mem.2 ⟨i, j, h, hj, rfl⟩))
  · subst h; exact fe_same o hq hi
  · exact fe_l.1 (hl _ (outr_mem.2 ⟨j, i, h, hi, rfl⟩))
theorem pairs_of_fe {l : List Gt} {p q : Int} {U L : List Nat} (hU : ∀ k, k ∈ U → k < l.length) (hL : ∀ k, k ∈ L → k < l.length) (h : ∀ i j, i < l.length → j < l.length → Fe l p q i j) : (∀ r, r ∈ gAll l U L → p * r.2 ≤ r.1 * q) ∧ (∀ r, r ∈ lAll l U L → r.1 * q ≤ p * r.2) := by
  constructor
  · intro r hr
    obtain ⟨i, j, h1, h2, _, rfl⟩ := gAll_mem.1 hr
    exact fe_g.2 (h i j (hL i h1) (hU j h2))
  · intro r hr
    obtain ⟨i, j, h1, h2, _, rfl⟩ := lAll_mem.1 hr
    exact fe_l.2 (h i j (hL i h1) (hU j h2))
theorem rp_of {l : List Gt} (o : Ok l) {i j : Nat} (hi : i < l.length) (hj : j < l.length) (h : (gt l i).x < (gt l j).x) : RP ((gt l j).hi - (gt l i).lo, (gt l j).x - (gt l i).x) ∧ RP ((gt l j).lo - (gt l i).hi, (gt l j).x - (gt l i).x) := by
  have ri := o.rng i hi
  have rj := o.rng j hj
  constructor <;> constructor <;> dsimp only <;> omega
theorem greatP_min {l : List Gt} (o : Ok l) (h2 : 2 ≤ l.length) : IsMin (gAll l (Un l) (Ln l)) (greatP l) := by
  refine min_from (b0 := bd0) (.inl rfl) _ ?_ (fun p hp => ?_) (fun p hp => .inl rfl)
  · intro he
    have : ((gt l (l.length - 1)).hi - (gt l 0).lo, (gt l (l.length - 1)).x - (gt l 0).x) ∈ gAll l (Un l) (Ln l) := gAll_mem.2 ⟨0, l.length - 1, Ln_mem.2 (stack_first o.lt o.pos), Un_mem.2 (stack_last o.lt o.pos), o.lt _ _ (by omega) (by omega), rfl⟩
    rw [he] at this; cases this
  · obtain ⟨i, j, hi, hj, hx, rfl⟩ := gAll_mem.1 hp
    exact (rp_of o (Ln_lt i hi) (Un_lt j hj) hx).1
theorem leastP_max {l : List Gt} (o : Ok l) (h2 : 2 ≤ l.length) : IsMax (lAll l (Un l) (Ln l)) (leastP l) := by
  refine max_from (b0 := bd0) (.inl rfl) _ ?_ (fun p hp => ?_) (fun p hp => .inl rfl)
  · intro he
    have : ((gt l (l.length - 1)).lo - (gt l 0).hi, (gt l (l.length - 1)).x - (gt l 0).x) ∈ lAll l (Un l) (Ln l) := lAll_mem.2 ⟨l.length - 1, 0, Ln_mem.2 (stack_last o.lt o.pos), Un_mem.2 (stack_first o.lt o.pos), o.lt _ _ (by omega) (by omega), rfl⟩
    rw [he] at this; cases this
  · obtain ⟨i, j, hi, hj, hx, rfl⟩ := lAll_mem.1 hp
    exact (rp_of o (Un_lt j hj) (Ln_lt i hi) hx).2
theorem greatR_min {l : List Gt} (o : Ok l) (h2 : 2 ≤ l.length) : IsMin (outr (rgP l) l.length l.length) (greatR l) := by
  have rp : ∀ p, p ∈ outr (rgP l) l.length l.length → RP p ∧ p.1 ≤ 2147483648 := fun p hp => by
    obtain ⟨i, j, h1, h3, rfl⟩ := outr_mem.1 hp
    have ri := o.rng i (by omega)
    have rj := o.rng j h3
    exact ⟨(rp_of o (by omega) h3 (o.lt i j h1 h3)).1, by unfold rgP; dsimp only; omega⟩
  refine min_from (b0 := bdG) (.inr ⟨rfl, by decide, by decide, by decide, by decide, by decide⟩) _ ?_ (fun p hp => (rp p hp).1) (fun p hp => .inr ?_)
  · intro he
    have : rgP l 0 1 ∈ outr (rgP l) l.length l.length := outr_mem.2 ⟨0, 1, by omega, by omega, rfl⟩
    rw [he] at this; cases this
  · have := (rp p hp).1.d0
    have := (rp p hp).2
    show p.1 * 1 < 1099511627776 * p.2
    omega
theorem leastR_max {l : List Gt} (o : Ok l) (h2 : 2 ≤ l.length) : IsMax (outr (rlP l) l.length l.length) (leastR l) := by
  have rp : ∀ p, p ∈ outr (rlP l) l.length l.length → RP p ∧ -2147483648 ≤ p.1 := fun p hp => by
    obtain ⟨i, j, h1, h3, rfl⟩ := outr_mem.1 hp
    have ri := o.rng i (by omega)
    have rj := o.rng j h3
    exact ⟨(rp_of o (by omega) h3 (o.lt i j h1 h3)).2, by unfold rlP; dsimp only; omega⟩
  refine max_from (b0 := bdL) (.inr ⟨rfl, by decide, by decide, by decide, by decide, by decide⟩) _ ?_ (fun p hp => (rp p hp).1) (fun p hp => .inr ?_)
  · intro he
    have : rlP l 0 1 ∈ outr (rlP l) l.length l.length := outr_mem.2 ⟨0, 1, by omega, by omega, rfl⟩
    rw [he] at this; cases this
  · have := (rp p hp).1.d0
    have := (rp p hp).2
    show -1099511627776 * p.2 < p.1 * 1
    omega
/-- at most: fractions -/
theorem min_le {ps : List (Int × Int)} {a b : Bd} (ha : Low a) (hb : IsMin ps b) (hp : ∀ r, r ∈ ps → 0 < r.2) (h : ∀ r, r ∈ ps → a.n * r.2 ≤ r.1 * a.d) : a.n * b.d ≤ b.n * a.d := by
  obtain ⟨r, h1, h2⟩ := hb.att
  exact fr_trans ha.d0 (hp r h1) hb.low.d0 (h r h1) (Int.le_of_eq h2.symm)
theorem le_max {ps : List (Int × Int)} {a b : Bd} (ha : Low a) (hb : IsMax ps b) (hp : ∀ r, r ∈ ps → 0 < r.2) (h : ∀ r, r ∈ ps → r.1 * a.d ≤ a.n * r.2) : b.n * a.d ≤ a.n * b.d := by
  obtain ⟨r, h1, h2⟩ := hb.att
  exact fr_trans hb.low.d0 (hp r h1) ha.d0 (Int.le_of_eq h2) (h r h1)
/-- a slope between the bounds of the corners suits all gates -/
theorem fe_between {l : List Gt} (o : Ok l) (h2 : 2 ≤ l.length) {a : Bd} (ha : Low a) (h1 : a.n * (greatP l).d ≤ (greatP l).n * a.d) (h3 : (leastP l).n * a.d ≤ a.n * (leastP l).d) : ∀ i j, i < l.length → j < l.length → Fe l a.n a.d i j := by
  have g := greatP_min o h2
  have k := leastP_max o h2
  exact fe_corners o (Int.le_of_lt ha.d0) (fe_of_pairs o (Int.le_of_lt ha.d0) Un_lt Ln_lt
    (fun r hr => fr_trans ha.d0 g.low.d0 (gAll_pos r hr) h1 (g.le r hr)) (fun r hr => fr_trans (lAll_pos r hr) k.low.d0 ha.d0 (k.ge r hr) h3))
theorem slopes_eq {l : List Gt} (o : Ok l) (h2 : 2 ≤ l.length) (h : (leastP l).n * (greatP l).d ≤ (greatP l).n * (leastP l).d) : greatP l = greatR l ∧ leastP l = leastR l := by
  have g := greatP_min o h2
  have k := leastP_max o h2
  have gr := greatR_min o h2
  have kr := leastR_max o h2
  have f1 := fe_between o h2 g.low (Int.le_refl _) h
  have f2 := fe_between o h2 k.low h (Int.le_refl _)
  constructor
  · refine low_eq' g.low gr.low (min_le g.low gr (rgP_pos o) (ref_of_fe f1).1) (min_le gr.low g gAll_pos fun r hr => ?_)
    obtain ⟨i, j, hi, hj, hx, rfl⟩ := gAll_mem.1 hr
    exact gr.le _ (outr_mem.2 ⟨i, j, o.of_x (Ln_lt i hi) (Un_lt j hj) hx, Un_lt j hj, rfl⟩)
  · refine low_eq' k.low kr.low (le_max kr.low k lAll_pos fun r hr => ?_) (le_max k.low kr (rlP_pos o) (ref_of_fe f2).2)
    obtain ⟨i, j, hi, hj, hx, rfl⟩ := lAll_mem.1 hr
    exact kr.ge _ (outr_mem.2 ⟨j, i, o.of_x (Un_lt j hj) (Ln_lt i hi) hx, Ln_lt i hi, rfl⟩)
theorem slopes_back {l : List Gt} (o : Ok l) (h2 : 2 ≤ l.length) (h : (leastR l).n * (greatR l).d ≤ (greatR l).n * (leastR l).d) : (leastP l).n * (greatP l).d ≤ (greatP l).n * (leastP l).d := by
  have g := greatP_min o h2
  have k := leastP_max o h2
  have gr := greatR_min o h2
  have kr := leastR_max o h2
  have f : ∀ i j, i < l.length → j < l.length → Fe l (greatR l).n (greatR l).d i j :=
    fe_of_ref o (Int.le_of_lt gr.low.d0) gr.le (fun r hr => fr_trans (rlP_pos o r hr) kr.low.d0 gr.low.d0 (kr.ge r hr) h)
  have f3 := pairs_of_fe (U := Un l) (L := Ln l) Un_lt Ln_lt f
  exact fr_trans k.low.d0 gr.low.d0 g.low.d0 (le_max gr.low k lAll_pos f3.2) (min_le gr.low g gAll_pos f3.1)
theorem one_gate {l : List Gt} (h1 : l.length = 1) : (leastP l) = bd0 ∧ leastR l = bdL ∧ greatR l = bdG := by
  have e : ∀ (U L : List Nat), (∀ k, k ∈ U → k < l.length) → (∀ k, k ∈ L → k < l.length) → lAll l U L = [] := fun U L hU hL => by
    apply List.eq_nil_iff_forall_not_mem.2
    intro p hp
    obtain ⟨i, j, hi, hj, hx, _⟩ := lAll_mem.1 hp
    have := hU j hj
    have := hL i hi
    have : i = j := by omega
    subst this; omega
  have e2 : ∀ f : Nat → Nat → Int × Int, outr f l.length l.length = [] := fun f => by
    apply List.eq_nil_iff_forall_not_mem.2
    intro p hp
    obtain ⟨i, j, h3, h4, _⟩ := outr_mem.1 hp
    omega
  refine ⟨?_, ?_, ?_⟩
  · unfold leastP; rw [e _ _ Un_lt Ln_lt]; rfl
  · unfold leastR; rw [e2]; rfl
  · unfold greatR; rw [e2]; rfl
theorem pass_eq (l : List Gt) : passP l = passR l := by
  unfold passP passR
  by_cases hz : checkZ l = 0
  · rw [if_pos hz, if_pos hz]
    have o := (checkZ_ok l).1 hz
    by_cases h1 : l.length = 1
    · obtain ⟨e1, e2, e3⟩ := one_gate h1
      rw [e1, e2, e3]
      rfl
    · have h2 : 2 ≤ l.length := by have := o.pos; omega
      have g := greatP_min o h2
      have k := leastP_max o h2
      have gr := greatR_min o h2
      have kr := leastR_max o h2
      rw [k.low.s, g.low.s]
      have i1 := less_low g.low k.low
      have i2 := less_low gr.low kr.low
      cases hp : lessZ (greatP l).n (greatP l).d (leastP l).n (leastP l).d
      · have hle : (leastP l).n * (greatP l).d ≤ (greatP l).n * (leastP l).d := Int.not_lt.1 fun h => by rw [i1.2 h] at hp; cases hp
        obtain ⟨e1, e2⟩ := slopes_eq o h2 hle
        rw [← e1, ← e2, hp]
        rfl
      · have hlt := i1.1 hp
        cases hr : lessZ (greatR l).n (greatR l).d (leastR l).n (leastR l).d
        · exfalso
          have hle : (leastR l).n * (greatR l).d ≤ (greatR l).n * (leastR l).d := Int.not_lt.1 fun h => by rw [i2.2 h] at hr; cases hr
          have := slopes_back o h2 hle
          omega
        · rfl
  · rw [if_neg hz, if_neg hz]
theorem sl_eq (l : List Gt) : slP l = slR l := by
  have hp := pass_eq l
  unfold slP slR
  by_cases hz : checkZ l = 0
  · rw [if_pos hz, if_pos hz]
    have o := (checkZ_ok l).1 hz
    by_cases h1 : l.length = 1
    · rw [if_pos (.inl h1), if_pos (.inl h1)]
    · have h2 : 2 ≤ l.length := by have := o.pos; omega
      have hR : passR l = !lessZ (greatR l).n (greatR l).d (leastR l).n (leastR l).d := by unfold passR; rw [if_pos hz]
      cases hr : lessZ (greatR l).n (greatR l).d (leastR l).n (leastR l).d
      · rw [hr] at hR
        rw [if_neg (by rw [hp, hR]; simp [h1]), if_neg (by simp [h1])]
        have g := greatP_min o h2
        have k := leastP_max o h2
        have gr := greatR_min o h2
        have kr := leastR_max o h2
        have hle : (leastR l).n * (greatR l).d ≤ (greatR l).n * (leastR l).d := Int.not_lt.1 fun h => by rw [(less_low gr.low kr.low).2 h] at hr; cases hr
        obtain ⟨e1, e2⟩ := slopes_eq o h2 (slopes_back o h2 hle)
        rw [e1, e2]
      · rw [hr] at hR
        rw [if_pos (.inr (by rw [hp, hR]; rfl)), if_pos (.inr rfl)]
  · rw [if_neg hz, if_neg hz]
end Go.Proofs.Ytlblocieleildaa
