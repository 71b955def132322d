/- The least of the corners' bounds of the value at a time is reached by a line. -/
import Derived.Test.YtlblocieleildaaSk33
set_option linter.unusedSimpArgs false
set_option linter.unusedVariables false
namespace Go.Proofs.Ytlblocieleildaa
open Go.Am Go.Plain

theorem pair_feas {n d V Q P a b H L : Int} (hd : 0 < d) (hQ : 0 < Q) (hv : V * d ≤ n * Q) (ha : 0 ≤ a) (hb : 0 ≤ b) (hab : a ≤ b) (hu : a * (P * b) ≤ a * (Q * H - V)) (hl : b * (Q * L - V) ≤ b * (P * a)) : (d * L - n) * b ≤ (d * H - n) * a := by
  have e1 : a * (P * b) = b * (P * a) := by grind
  have t1 : 0 ≤ d * (a * (Q * H - V) - b * (Q * L - V)) := Int.mul_nonneg (Int.le_of_lt hd) (by omega)
  have t2 : 0 ≤ (n * Q - V * d) * (b - a) := Int.mul_nonneg (by omega) (by omega)
  have e2 : Q * ((d * H - n) * a - (d * L - n) * b) = d * (a * (Q * H - V) - b * (Q * L - V)) + (n * Q - V * d) * (b - a) := by grind
  have t3 : 0 ≤ (d * H - n) * a - (d * L - n) * b := le_of_mulT hQ (by rw [Int.mul_zero, e2]; omega)
  omega
theorem line_exists {l : List Gt} (o : Ok l) {x n d V Q P : Int} (hd : 0 < d) (hQ : 0 < Q) (hv : V * d ≤ n * Q) (ln : LineAt l x V Q P 1) (hb : ∀ p, p ∈ hAll l (Un l) (Ln l) x → n * p.2 ≤ p.1 * d) : ∃ S T, 0 < T ∧ LineAt l x n d S T := by
  have up : ∀ j, j ∈ Un l → P * ((gt l j).x - x) ≤ Q * (gt l j).hi - V := fun j hj => by have := ln.up j (Un_lt j hj); rw [Int.one_mul] at this; exact this
  have dn : ∀ i, i ∈ Ln l → Q * (gt l i).lo - V ≤ P * ((gt l i).x - x) := fun i hi => by have := ln.dn i (Ln_lt i hi); rw [Int.one_mul] at this; exact this
  generalize hps : ((Ln l).filter fun i => decide (x < (gt l i).x)).map (fun i => (d * (gt l i).lo - n, (gt l i).x - x)) ++ ((Un l).filter fun j => decide ((gt l j).x < x)).map (fun j => (n - d * (gt l j).hi, x - (gt l j).x)) = ps
  generalize hqs : ((Un l).filter fun j => decide (x < (gt l j).x)).map (fun j => (d * (gt l j).hi - n, (gt l j).x - x)) ++ ((Ln l).filter fun i => decide ((gt l i).x < x)).map (fun i => (n - d * (gt l i).lo, x - (gt l i).x)) = qs
  have mp : ∀ p, p ∈ ps ↔ (∃ i, i ∈ Ln l ∧ x < (gt l i).x ∧ p = (d * (gt l i).lo - n, (gt l i).x - x)) ∨ ∃ j, j ∈ Un l ∧ (gt l j).x < x ∧ p = (n - d * (gt l j).hi, x - (gt l j).x) := fun p => by
    rw [← hps, List.mem_append, List.mem_map, List.mem_map]
    constructor
    · rintro (⟨i, h, rfl⟩ | ⟨i, h, rfl⟩)
      · rw [List.mem_filter, decide_eq_true_eq] at h; exact .inl ⟨i, h.1, h.2, rfl⟩
      · rw [List.mem_filter, decide_eq_true_eq] at h; exact .inr ⟨i, h.1, h.2, rfl⟩
    · rintro (⟨i, h1, h2, rfl⟩ | ⟨i, h1, h2, rfl⟩)
      · exact .inl ⟨i, by rw [List.mem_filter, decide_eq_true_eq]; exact ⟨h1, h2⟩, rfl⟩
      · exact .inr ⟨i, by rw [List.mem_filter, decide_eq_true_eq]; exact ⟨h1, h2⟩, rfl⟩
  have mq : ∀ p, p ∈ qs ↔ (∃ j, j ∈ Un l ∧ x < (gt l j).x ∧ p = (d * (gt l j).hi - n, (gt l j).x - x)) ∨ ∃ i, i ∈ Ln l ∧ (gt l i).x < x ∧ p = (n - d * (gt l i).lo, x - (gt l i).x) := fun p => by
    rw [← hqs, List.mem_append, List.mem_map, List.mem_map]
    constructor
    · rintro (⟨i, h, rfl⟩ | ⟨i, h, rfl⟩)
      · rw [List.mem_filter, decide_eq_true_eq] at h; exact .inl ⟨i, h.1, h.2, rfl⟩
      · rw [List.mem_filter, decide_eq_true_eq] at h; exact .inr ⟨i, h.1, h.2, rfl⟩
    · rintro (⟨i, h1, h2, rfl⟩ | ⟨i, h1, h2, rfl⟩)
      · exact .inl ⟨i, by rw [List.mem_filter, decide_eq_true_eq]; exact ⟨h1, h2⟩, rfl⟩
      · exact .inr ⟨i, by rw [List.mem_filter, decide_eq_true_eq]; exact ⟨h1, h2⟩, rfl⟩
  obtain ⟨S, T, hT, h1, h2⟩ := frac_between ps qs (fun p hp => by
      rcases (mp p).1 hp with ⟨i, _, h, rfl⟩ | ⟨i, _, h, rfl⟩ <;> dsimp only <;> omega) (fun p hp => by
      rcases (mq p).1 hp with ⟨i, _, h, rfl⟩ | ⟨i, _, h, rfl⟩ <;> dsimp only <;> omega) (fun p hp q hq => by
      rcases (mp p).1 hp with ⟨i, hi, hxi, rfl⟩ | ⟨i, hi, hxi, rfl⟩ <;> rcases (mq q).1 hq with ⟨j, hj, hxj, rfl⟩ | ⟨j, hj, hxj, rfl⟩ <;> dsimp only
      · -- a lower end and an upper end, both behind x
        have hu := up j hj
        have hl := dn i hi
        by_cases hc : (gt l j).x < (gt l i).x
        · have hbd := hb _ (hAll_mem.2 ⟨j, hj, .inr (.inr ⟨i, hi, by unfold hLp; rw [if_neg (by omega), if_pos ⟨by omega, by omega⟩]; exact List.mem_singleton.2 rfl⟩)⟩)
          dsimp only at hbd
          have e : (d * (gt l j).hi - n) * ((gt l i).x - x) - (d * (gt l i).lo - n) * ((gt l j).x - x) = ((gt l j).hi * ((gt l i).x - (gt l j).x) + ((gt l j).hi - (gt l i).lo) * ((gt l j).x - x)) * d - n * ((gt l i).x - (gt l j).x) := by grind
          omega
        · exact pair_feas hd hQ hv (by omega) (by omega) (by omega) (Int.mul_le_mul_of_nonneg_left hu (by omega)) (Int.mul_le_mul_of_nonneg_left hl (by omega))
      · -- two lower ends
        have hl := dn i hi
        have hl' := dn j hj
        have t1 := Int.mul_le_mul_of_nonneg_left hl (show 0 ≤ x - (gt l j).x by omega)
        have t2 := Int.mul_le_mul_of_nonneg_left hl' (show 0 ≤ (gt l i).x - x by omega)
        have t3 : 0 ≤ (n * Q - V * d) * ((gt l i).x - (gt l j).x) := Int.mul_nonneg (by omega) (by omega)
        have e1 : (x - (gt l j).x) * (P * ((gt l i).x - x)) + ((gt l i).x - x) * (P * ((gt l j).x - x)) = 0 := by grind
        have t4 : 0 ≤ d * (0 - (x - (gt l j).x) * (Q * (gt l i).lo - V) - ((gt l i).x - x) * (Q * (gt l j).lo - V)) := Int.mul_nonneg (Int.le_of_lt hd) (by omega)
        have e2 : Q * ((n - d * (gt l j).lo) * ((gt l i).x - x) - (d * (gt l i).lo - n) * (x - (gt l j).x)) = d * (0 - (x - (gt l j).x) * (Q * (gt l i).lo - V) - ((gt l i).x - x) * (Q * (gt l j).lo - V)) + (n * Q - V * d) * ((gt l i).x - (gt l j).x) := by grind
        have t5 : 0 ≤ (n - d * (gt l j).lo) * ((gt l i).x - x) - (d * (gt l i).lo - n) * (x - (gt l j).x) := le_of_mulT hQ (by rw [Int.mul_zero, e2]; omega)
        omega
      · -- two upper ends
        have hbd := hb _ (hAll_mem.2 ⟨i, hi, .inr (.inl ⟨j, hj, by unfold hUp; rw [if_pos ⟨hxi, hxj⟩]; exact List.mem_singleton.2 rfl⟩)⟩)
        dsimp only at hbd
        have e : (d * (gt l j).hi - n) * (x - (gt l i).x) - (n - d * (gt l i).hi) * ((gt l j).x - x) = ((gt l i).hi * ((gt l j).x - x) + (gt l j).hi * (x - (gt l i).x)) * d - n * ((gt l j).x - (gt l i).x) := by grind
        omega
      · -- an upper end and a lower end, both ahead of x
        have hu := up i hi
        have hl := dn j hj
        by_cases hc : (gt l j).x < (gt l i).x
        · have hbd := hb _ (hAll_mem.2 ⟨i, hi, .inr (.inr ⟨j, hj, by unfold hLp; rw [if_pos ⟨hc, hxi⟩]; exact List.mem_singleton.2 rfl⟩)⟩)
          dsimp only at hbd
          have e : (n - d * (gt l j).lo) * (x - (gt l i).x) - (n - d * (gt l i).hi) * (x - (gt l j).x) = ((gt l i).hi * ((gt l i).x - (gt l j).x) + ((gt l i).hi - (gt l j).lo) * (x - (gt l i).x)) * d - n * ((gt l i).x - (gt l j).x) := by grind
          omega
        · have a1 := Int.mul_le_mul_of_nonneg_left hu (show 0 ≤ x - (gt l j).x by omega)
          have a2 := Int.mul_le_mul_of_nonneg_left hl (show 0 ≤ x - (gt l i).x by omega)
          have e1 : (x - (gt l j).x) * (P * ((gt l i).x - x)) = (x - (gt l j).x) * (-P * (x - (gt l i).x)) := by grind
          have e2 : (x - (gt l i).x) * (P * ((gt l j).x - x)) = (x - (gt l i).x) * (-P * (x - (gt l j).x)) := by grind
          have := pair_feas (n := n) (d := d) (V := V) (Q := Q) (P := -P) (a := x - (gt l j).x) (b := x - (gt l i).x) (H := (gt l i).hi) (L := (gt l j).lo) hd hQ hv (by omega) (by omega) (by omega) (by omega) (by omega)
          have e3 : (n - d * (gt l j).lo) * (x - (gt l i).x) = -((d * (gt l j).lo - n) * (x - (gt l i).x)) := by grind
          have e4 : (n - d * (gt l i).hi) * (x - (gt l j).x) = -((d * (gt l i).hi - n) * (x - (gt l j).x)) := by grind
          omega)
  refine ⟨S, T, hT, line_corners o hd hT (fun j hj => ?_) (fun i hi => ?_)⟩
  · by_cases c1 : x < (gt l j).x
    · have := h2 _ ((mq _).2 (.inl ⟨j, hj, c1, rfl⟩))
      dsimp only at this
      rw [Int.mul_comm T]
      exact this
    by_cases c2 : (gt l j).x < x
    · have := h1 _ ((mp _).2 (.inr ⟨j, hj, c2, rfl⟩))
      dsimp only at this
      have e1 : S * ((gt l j).x - x) = -(S * (x - (gt l j).x)) := by grind
      have e2 : T * (d * (gt l j).hi - n) = -((n - d * (gt l j).hi) * T) := by grind
      omega
    · have hx : (gt l j).x = x := by omega
      have hbd := hb _ (hAll_mem.2 ⟨j, hj, .inl (by unfold hO; rw [if_pos hx]; exact List.mem_singleton.2 rfl)⟩)
      dsimp only at hbd
      rw [Int.mul_one, Int.mul_comm] at hbd
      rw [hx, Int.sub_self, Int.mul_zero]
      exact Int.mul_nonneg (Int.le_of_lt hT) (by omega)
  · by_cases c1 : x < (gt l i).x
    · have := h1 _ ((mp _).2 (.inl ⟨i, hi, c1, rfl⟩))
      dsimp only at this
      rw [Int.mul_comm T]
      exact this
    by_cases c2 : (gt l i).x < x
    · have := h2 _ ((mq _).2 (.inr ⟨i, hi, c2, rfl⟩))
      dsimp only at this
      have e1 : S * ((gt l i).x - x) = -(S * (x - (gt l i).x)) := by grind
      have e2 : T * (d * (gt l i).lo - n) = -((n - d * (gt l i).lo) * T) := by grind
      omega
    · have hx : (gt l i).x = x := by omega
      have hl := dn i hi
      rw [hx, Int.sub_self, Int.mul_zero] at hl ⊢
      have e1 : Q * (n - d * (gt l i).lo) = (n * Q - V * d) + d * (V - Q * (gt l i).lo) := by grind
      have t1 : 0 ≤ d * (V - Q * (gt l i).lo) := Int.mul_nonneg (Int.le_of_lt hd) (by omega)
      have t2 : 0 ≤ n - d * (gt l i).lo := le_of_mulT hQ (by rw [Int.mul_zero, e1]; omega)
      exact Int.mul_nonpos_of_nonneg_of_nonpos (Int.le_of_lt hT) (by omega)
theorem hAll_ne {l : List Gt} (o : Ok l) {x : Int} (h : l.length = 1 → x = (gt l 0).x) : hAll l (Un l) (Ln l) x ≠ [] := by
  intro he
  have key : ∀ p, p ∈ hAll l (Un l) (Ln l) x → False := fun p hp => by rw [he] at hp; cases hp
  have u0 : 0 ∈ Un l := Un_mem.2 (stack_first o.lt o.pos)
  have u1 : l.length - 1 ∈ Un l := Un_mem.2 (stack_last o.lt o.pos)
  have l0 : 0 ∈ Ln l := Ln_mem.2 (stack_first o.lt o.pos)
  have l1 : l.length - 1 ∈ Ln l := Ln_mem.2 (stack_last o.lt o.pos)
  by_cases c0 : (gt l 0).x = x
  · exact key _ (hAll_mem.2 ⟨0, u0, .inl (by unfold hO; rw [if_pos c0]; exact List.mem_singleton.2 rfl)⟩)
  have hn : 2 ≤ l.length := by
    have := o.pos
    rcases Nat.lt_or_ge 1 l.length with h1 | h1
    · omega
    · exact absurd (h (by omega)).symm c0
  have hx := o.lt 0 (l.length - 1) (by omega) (by omega)
  by_cases c1 : (gt l (l.length - 1)).x = x
  · exact key _ (hAll_mem.2 ⟨_, u1, .inl (by unfold hO; rw [if_pos c1]; exact List.mem_singleton.2 rfl)⟩)
  by_cases c2 : x < (gt l 0).x
  · exact key _ (hAll_mem.2 ⟨0, u0, .inr (.inr ⟨_, l1, by unfold hLp; rw [if_neg (by omega), if_pos ⟨c2, hx⟩]; exact List.mem_singleton.2 rfl⟩)⟩)
  by_cases c3 : (gt l (l.length - 1)).x < x
  · exact key _ (hAll_mem.2 ⟨_, u1, .inr (.inr ⟨0, l0, by unfold hLp; rw [if_pos ⟨hx, c3⟩]; exact List.mem_singleton.2 rfl⟩)⟩)
  · exact key _ (hAll_mem.2 ⟨0, u0, .inr (.inl ⟨_, u1, by unfold hUp; rw [if_pos ⟨by omega, by omega⟩]; exact List.mem_singleton.2 rfl⟩)⟩)
theorem high_min {l : List Gt} (o : Ok l) {x : Int} (hx : 0 ≤ x ∧ x ≤ 1073741824) (h : l.length = 1 → x = (gt l 0).x) : IsMin (hAll l (Un l) (Ln l) x) (gF (hAll l (Un l) (Ln l) x)) :=
  min_from (b0 := bd0) (.inl rfl) _ (hAll_ne o h) (fun p hp => by
    obtain ⟨i, j, hi, hj, hb⟩ := corner_bound Un_lt Ln_lt hp
    exact (bP_rp o hx hi hj hb).1) (fun p hp => .inl rfl)
theorem highR_min {l : List Gt} (o : Ok l) {x : Int} (hx : 0 ≤ x ∧ x ≤ 1073741824) (h : l.length = 1 → x = (gt l 0).x) : IsMin (vOut l x l.length) (gV (vOut l x l.length)) := by
  refine min_from (b0 := bdV) (.inr ⟨rfl, by decide, by decide, by decide, by decide, by decide⟩) _ (fun he => ?_) (fun p hp => ?_) (fun p hp => .inr ?_)
  · obtain ⟨p, hp⟩ := List.exists_mem_of_ne_nil _ (hAll_ne o h)
    obtain ⟨i, j, hi, hj, hb⟩ := corner_bound Un_lt Ln_lt hp
    have := vOut_mem.2 ⟨i, j, hi, hj, hb⟩
    rw [he] at this; cases this
  · obtain ⟨i, j, hi, hj, hb⟩ := vOut_mem.1 hp
    exact (bP_rp o hx hi hj hb).1
  · obtain ⟨i, j, hi, hj, hb⟩ := vOut_mem.1 hp
    obtain ⟨k1, k2⟩ := bP_rp o hx hi hj hb
    have := k1.d0
    show p.1 * 1 < 4611686018427387904 * p.2
    omega
/-- the corners' bound is the bound of all -/
theorem high_eq {l : List Gt} (o : Ok l) {x : Int} (hx : 0 ≤ x ∧ x ≤ 1073741824) (h : l.length = 1 → x = (gt l 0).x) (hf : ∃ p q, 0 < q ∧ (∀ i j, i < l.length → j < l.length → Fe l p q i j)) : gF (hAll l (Un l) (Ln l) x) = gV (vOut l x l.length) := by
  have g := high_min o hx h
  have r := highR_min o hx h
  generalize gF (hAll l (Un l) (Ln l) x) = G at *
  generalize gV (vOut l x l.length) = R at *
  obtain ⟨p, q, hq, hfe⟩ := hf
  obtain ⟨V, ln⟩ := line_of_fe o hq hfe x
  have pos : ∀ r, r ∈ vOut l x l.length → 0 < r.2 := fun r hr => by
    obtain ⟨i, j, hi, hj, hb⟩ := vOut_mem.1 hr; exact bP_pos hb
  have hv : V * G.d ≤ G.n * q := by
    obtain ⟨c, hc, he⟩ := g.att
    obtain ⟨i, j, hi, hj, hb⟩ := corner_bound Un_lt Ln_lt hc
    exact fr_trans hq (bP_pos hb) g.low.d0 (line_bound hq (by decide) ln hi hj hb) (Int.le_of_eq he.symm)
  obtain ⟨S, T, hT, lg⟩ := line_exists o g.low.d0 hq hv ln g.le
  refine low_eq' g.low r.low (min_le g.low r pos fun c hc => ?_) (min_le r.low g (fun c hc => ?_) fun c hc => ?_)
  · obtain ⟨i, j, hi, hj, hb⟩ := vOut_mem.1 hc
    exact line_bound g.low.d0 hT lg hi hj hb
  · obtain ⟨i, j, hi, hj, hb⟩ := corner_bound Un_lt Ln_lt hc; exact bP_pos hb
  · obtain ⟨i, j, hi, hj, hb⟩ := corner_bound Un_lt Ln_lt hc
    exact r.le c (vOut_mem.2 ⟨i, j, hi, hj, hb⟩)
end Go.Proofs.Ytlblocieleildaa
