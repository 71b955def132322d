/- Gates that a line passes: its slope and its values lie within the bounds, and exact gates determine them. -/
import Derived.Test.YtlblocieleildaaSk37
set_option linter.unusedSimpArgs false
set_option linter.unusedVariables false
namespace Go.Proofs.Ytlblocieleildaa
open Go.Am Go.Plain

/-- the line y = A + B * x passes all gates -/
def OnLine (l : List Gt) (A B : Int) : Prop := ∀ i, i < l.length → (gt l i).lo ≤ A + B * (gt l i).x ∧ A + B * (gt l i).x ≤ (gt l i).hi
theorem online_fe {l : List Gt} {A B : Int} (h : OnLine l A B) : ∀ i j, i < l.length → j < l.length → Fe l B 1 i j := fun i j hi hj => by
  unfold Fe
  have := (h i hi).1
  have := (h j hj).2
  omega
theorem low_int {n : Int} (h : -4611686018427387904 ≤ n ∧ n ≤ 4611686018427387904) : Low ⟨true, n, 1⟩ := ⟨rfl, by show (0 : Int) < 1; decide, by show (1 : Int) ≤ _; decide, h.1, h.2, by show Int.gcd _ 1 = 1; exact Int.gcd_one_right ..⟩
theorem online_pass {l : List Gt} (o : Ok l) (h2 : 2 ≤ l.length) {A B : Int} (h : OnLine l A B) (hB : -1000 ≤ B ∧ B ≤ 1000) : passP l = true ∧ (leastR l).n * 1 ≤ B * (leastR l).d ∧ B * (greatR l).d ≤ (greatR l).n * 1 := by
  have gr := greatR_min o h2
  have kr := leastR_max o h2
  have lb : Low ⟨true, B, 1⟩ := low_int (by omega)
  have f := ref_of_fe (online_fe h)
  have h1 := min_le lb gr (rgP_pos o) f.1
  have h3 := le_max lb kr (rlP_pos o) f.2
  refine ⟨?_, h3, h1⟩
  rw [pass_eq]
  unfold passR
  rw [if_pos ((checkZ_ok l).2 o)]
  cases hr : lessZ (greatR l).n (greatR l).d (leastR l).n (leastR l).d
  · rfl
  · have := (less_low gr.low kr.low).1 hr
    have := fr_trans kr.low.d0 lb.d0 gr.low.d0 h3 h1
    omega
theorem online_at {l : List Gt} {A B : Int} (h : OnLine l A B) (x : Int) : LineAt l x (A + B * x) 1 B 1 := by
  constructor
  · intro j hj
    have := (h j hj).2
    rw [Int.one_mul, Int.one_mul, Int.mul_sub]
    omega
  · intro i hi
    have := (h i hi).1
    rw [Int.one_mul, Int.one_mul, Int.mul_sub]
    omega
theorem online_turned {l : List Gt} {A B : Int} (h : OnLine l A B) : OnLine (turnedL l) (-A) (-B) := fun i hi => by
  rw [turnedL_len] at hi
  have := h i hi
  rw [turned_fun]
  dsimp only
  rw [Int.neg_mul]
  omega
/-- the value of the line is at most the greatest value -/
theorem online_high {l : List Gt} (o : Ok l) (h2 : 2 ≤ l.length) {A B x : Int} (h : OnLine l A B) (hx : 0 ≤ x ∧ x ≤ 1073741824) (hv : -4611686018427387904 ≤ A + B * x ∧ A + B * x ≤ 4611686018427387904) : (A + B * x) * (highR l x).d ≤ (highR l x).n * 1 := by
  have r := highR_min o hx (fun h => by omega)
  have lv : Low ⟨true, A + B * x, 1⟩ := low_int hv
  refine min_le lv r (fun c hc => ?_) fun c hc => ?_
  · obtain ⟨i, j, hi, hj, hb⟩ := vOut_mem.1 hc; exact bP_pos hb
  · obtain ⟨i, j, hi, hj, hb⟩ := vOut_mem.1 hc
    exact line_bound (by decide) (by decide) (online_at h x) hi hj hb
/-- exact gates: the greatest slope is that of the line -/
theorem exact_great {l : List Gt} (o : Ok l) (h2 : 2 ≤ l.length) {A B : Int} (h : OnLine l A B) (hB : -1000 ≤ B ∧ B ≤ 1000) (he : ∀ i, i < l.length → (gt l i).lo = (gt l i).hi) : greatR l = ⟨true, B, 1⟩ ∧ leastR l = ⟨true, B, 1⟩ := by
  obtain ⟨_, h3, h4⟩ := online_pass o h2 h hB
  have gr := greatR_min o h2
  have kr := leastR_max o h2
  have lb : Low ⟨true, B, 1⟩ := low_int (by omega)
  have a0 := h 0 (by omega)
  have a1 := h 1 (by omega)
  have e0 := he 0 (by omega)
  have e1 := he 1 (by omega)
  have hX := o.lt 0 1 (by omega) (by omega)
  have m1 := gr.le _ (outr_mem.2 ⟨0, 1, by omega, by omega, rfl⟩)
  have m2 := kr.ge _ (outr_mem.2 ⟨0, 1, by omega, by omega, rfl⟩)
  unfold rgP at m1
  unfold rlP at m2
  dsimp only at m1 m2
  have hg : (gt l 1).hi - (gt l 0).lo = B * ((gt l 1).x - (gt l 0).x) := by rw [Int.mul_sub]; omega
  have hl : (gt l 1).lo - (gt l 0).hi = B * ((gt l 1).x - (gt l 0).x) := by rw [Int.mul_sub]; omega
  rw [hg] at m1
  rw [hl] at m2
  constructor
  · refine low_eq' gr.low lb ?_ h4
    show (greatR l).n * 1 ≤ B * (greatR l).d
    have e : B * ((gt l 1).x - (gt l 0).x) * (greatR l).d = ((gt l 1).x - (gt l 0).x) * (B * (greatR l).d) := by grind
    rw [e, Int.mul_comm] at m1
    rw [Int.mul_one]
    exact Int.le_of_mul_le_mul_left m1 (by omega)
  · refine low_eq' kr.low lb h3 ?_
    show B * (leastR l).d ≤ (leastR l).n * 1
    have e : B * ((gt l 1).x - (gt l 0).x) * (leastR l).d = ((gt l 1).x - (gt l 0).x) * (B * (leastR l).d) := by grind
    rw [e, Int.mul_comm (leastR l).n] at m2
    rw [Int.mul_one]
    exact Int.le_of_mul_le_mul_left m2 (by omega)
/-- some bound of exact gates is the line's own value -/
theorem exact_bound {l : List Gt} (o : Ok l) (h2 : 2 ≤ l.length) {A B x : Int} (h : OnLine l A B) (he : ∀ i, i < l.length → (gt l i).lo = (gt l i).hi) : ∃ p, p ∈ vOut l x l.length ∧ p.1 = (A + B * x) * p.2 := by
  have a0 := h 0 (by omega)
  have a1 := h (l.length - 1) (by omega)
  have e0 := he 0 (by omega)
  have e1 := he (l.length - 1) (by omega)
  have hX := o.lt 0 (l.length - 1) (by omega) (by omega)
  have v0 : (gt l 0).hi = A + B * (gt l 0).x := by omega
  have v1 : (gt l (l.length - 1)).hi = A + B * (gt l (l.length - 1)).x := by omega
  have w0 : (gt l 0).lo = A + B * (gt l 0).x := by omega
  have w1 : (gt l (l.length - 1)).lo = A + B * (gt l (l.length - 1)).x := by omega
  by_cases c0 : x = (gt l 0).x
  · refine ⟨((gt l 0).hi, 1), vOut_mem.2 ⟨0, 0, by omega, by omega, by unfold bP; rw [if_pos c0]⟩, ?_⟩
    dsimp only; rw [v0, Int.mul_one, c0]
  by_cases c1 : x = (gt l (l.length - 1)).x
  · refine ⟨((gt l (l.length - 1)).hi, 1), vOut_mem.2 ⟨l.length - 1, l.length - 1, by omega, by omega, by unfold bP; rw [if_pos c1]⟩, ?_⟩
    dsimp only; rw [v1, Int.mul_one, c1]
  by_cases c2 : x < (gt l 0).x
  · refine ⟨_, vOut_mem.2 ⟨0, l.length - 1, by omega, by omega, by unfold bP; rw [if_neg c0, if_neg (by omega), if_neg (by omega), if_pos ⟨c2, hX⟩]⟩, ?_⟩
    dsimp only; rw [v0, w1]; grind
  by_cases c3 : (gt l (l.length - 1)).x < x
  · refine ⟨_, vOut_mem.2 ⟨l.length - 1, 0, by omega, by omega, by unfold bP; rw [if_neg c1, if_neg (by omega), if_pos ⟨hX, c3⟩]⟩, ?_⟩
    dsimp only; rw [v1, w0]; grind
  · refine ⟨_, vOut_mem.2 ⟨0, l.length - 1, by omega, by omega, by unfold bP; rw [if_neg c0, if_pos ⟨by omega, by omega⟩]⟩, ?_⟩
    dsimp only; rw [v0, v1]; grind
theorem exact_high {l : List Gt} (o : Ok l) (h2 : 2 ≤ l.length) {A B x : Int} (h : OnLine l A B) (hx : 0 ≤ x ∧ x ≤ 1073741824) (hv : -4611686018427387904 ≤ A + B * x ∧ A + B * x ≤ 4611686018427387904) (he : ∀ i, i < l.length → (gt l i).lo = (gt l i).hi) : highR l x = ⟨true, A + B * x, 1⟩ := by
  have r := highR_min o hx (fun h => by omega)
  have lv : Low ⟨true, A + B * x, 1⟩ := low_int hv
  refine low_eq' r.low lv ?_ (online_high o h2 h hx hv)
  obtain ⟨p, hp, e⟩ := exact_bound o h2 (x := x) h he
  have := r.le p hp
  have hp2 : 0 < p.2 := by obtain ⟨i, j, hi, hj, hb⟩ := vOut_mem.1 hp; exact bP_pos hb
  show (highR l x).n * 1 ≤ (A + B * x) * (highR l x).d
  have e2 : (A + B * x) * p.2 * (highR l x).d = p.2 * ((A + B * x) * (highR l x).d) := by grind
  rw [e] at this
  change (highR l x).n * p.2 ≤ (A + B * x) * p.2 * (highR l x).d at this
  rw [e2, Int.mul_comm] at this
  rw [Int.mul_one]
  exact Int.le_of_mul_le_mul_left this hp2
end Go.Proofs.Ytlblocieleildaa
