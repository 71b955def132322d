/- The corners give the same bounds of the value at a time as all gates. The least of the corners' bounds of the value at a time is reached by a line. At of the program and of the reference give the same. With one gate less the bounds are at most wider: what the law of narrowing asks. Slices of an argument, and appends of them. -/
import Derived.Test.YtlblocieleildaaSk21
import Derived.Test.YtlblocieleildaaSk31
import Derived.Test.YtlblocieleildaaSk29
import Derived.Test.YtlblocieleildaaSk32
import Derived.Test.YtlblocieleildaaSk25
section
set_option linter.unusedSimpArgs false
set_option linter.unusedVariables false
namespace Go.Proofs.Ytlblocieleildaa
open Go.Am Go.Plain

theorem frac_max : ∀ (ps : List (Int × Int)), ps ≠ [] → (∀ p, p ∈ ps → 0 < p.2) → ∃ m, m ∈ ps ∧ ∀ p, p ∈ ps → p.1 * m.2 ≤ m.1 * p.2
  | [], h, _ => absurd rfl h
  | [p], _, _ => ⟨p, by simp, fun q hq => by rw [List.mem_singleton.1 hq]; exact Int.le_refl _⟩
  | p :: q :: ps, _, hp => by
    obtain ⟨m, h1, h2⟩ := frac_max (q :: ps) (by simp) (fun r hr => hp r (List.mem_cons_of_mem _ hr))
    have pm := hp m (List.mem_cons_of_mem _ h1)
    have pp := hp p (by simp)
    by_cases hc : p.1 * m.2 ≤ m.1 * p.2
    · refine ⟨m, List.mem_cons_of_mem _ h1, fun r hr => ?_⟩
      rcases List.mem_cons.1 hr with rfl | hr
      · exact hc
      · exact h2 r hr
    · refine ⟨p, by simp, fun r hr => ?_⟩
      rcases List.mem_cons.1 hr with rfl | hr
      · exact Int.le_refl _
      · exact fr_trans (hp r (List.mem_cons_of_mem _ hr)) pm pp (h2 r hr) (by omega)
theorem frac_min (ps : List (Int × Int)) (h : ps ≠ []) (hp : ∀ p, p ∈ ps → 0 < p.2) : ∃ m, m ∈ ps ∧ ∀ p, p ∈ ps → m.1 * p.2 ≤ p.1 * m.2 := by
  obtain ⟨m, h1, h2⟩ := frac_max (ps.map fun p => (-p.1, p.2)) (by simpa using h) (fun p hp' => by
    obtain ⟨q, hq, rfl⟩ := List.mem_map.1 hp'; exact hp q hq)
  obtain ⟨q, hq, rfl⟩ := List.mem_map.1 h1
  refine ⟨q, hq, fun p hp' => ?_⟩
  have := h2 _ (List.mem_map.2 ⟨p, hp', rfl⟩)
  dsimp only at this
  rw [Int.neg_mul, Int.neg_mul] at this
  omega
/-- a fraction between all of one list and all of another one -/
theorem frac_between (ps qs : List (Int × Int)) (hp : ∀ p, p ∈ ps → 0 < p.2) (hq : ∀ q, q ∈ qs → 0 < q.2) (h : ∀ p, p ∈ ps → ∀ q, q ∈ qs → p.1 * q.2 ≤ q.1 * p.2) : ∃ S T : Int, 0 < T ∧ (∀ p, p ∈ ps → p.1 * T ≤ S * p.2) ∧ (∀ q, q ∈ qs → S * q.2 ≤ q.1 * T) := by
  by_cases h1 : ps = []
  · by_cases h2 : qs = []
    · subst h1; subst h2
      exact ⟨0, 1, by decide, fun p hp => (by cases hp), fun p hp => (by cases hp)⟩
    · obtain ⟨m, h3, h4⟩ := frac_min qs h2 hq
      subst h1
      exact ⟨m.1, m.2, hq m h3, fun p hp => (by cases hp), h4⟩
  · obtain ⟨m, h3, h4⟩ := frac_max ps h1 hp
    exact ⟨m.1, m.2, hp m h3, h4, fun q hq => h m h3 q hq⟩
/-- the line through (x, n / d), of slope S / (T * d), passes all gates -/
structure LineAt (l : List Gt) (x n d S T : Int) : Prop where
  up : ∀ j, j < l.length → S * ((gt l j).x - x) ≤ T * (d * (gt l j).hi - n)
  dn : ∀ i, i < l.length → T * (d * (gt l i).lo - n) ≤ S * ((gt l i).x - x)
theorem le_of_mulT {T a b : Int} (hT : 0 < T) (h : T * a ≤ T * b) : a ≤ b := Int.le_of_mul_le_mul_left h hT
theorem line_bound {l : List Gt} {x n d S T : Int} (hd : 0 < d) (hT : 0 < T) (ln : LineAt l x n d S T) {i j : Nat} (hi : i < l.length) (hj : j < l.length) {p : Int × Int} (hp : bP l x i j = some p) : n * p.2 ≤ p.1 * d := by
  have u1 := ln.up i hi
  have u2 := ln.up j hj
  have d1 := ln.dn j hj
  unfold bP at hp
  generalize (gt l i).x = X at *
  generalize (gt l i).hi = H at *
  generalize (gt l j).x = Y at *
  generalize (gt l j).hi = K at *
  generalize (gt l j).lo = M at *
  split at hp
  · cases hp
    rename_i hx
    subst hx
    rw [Int.sub_self, Int.mul_zero] at u1
    have : 0 ≤ d * H - n := le_of_mulT hT (by rw [Int.mul_zero]; exact u1)
    dsimp only
    rw [Int.mul_one, Int.mul_comm H d]
    omega
  · split at hp
    · cases hp
      rename_i hx
      dsimp only
      have a1 := Int.mul_le_mul_of_nonneg_left u1 (show 0 ≤ Y - x by omega)
      have a2 := Int.mul_le_mul_of_nonneg_left u2 (show 0 ≤ x - X by omega)
      have e1 : (Y - x) * (S * (X - x)) + (x - X) * (S * (Y - x)) = 0 := by grind
      have e2 : (Y - x) * (T * (d * H - n)) + (x - X) * (T * (d * K - n)) = T * ((H * (Y - x) + K * (x - X)) * d - n * (Y - X)) := by grind
      have : 0 ≤ (H * (Y - x) + K * (x - X)) * d - n * (Y - X) := le_of_mulT hT (by rw [Int.mul_zero]; omega)
      omega
    · split at hp
      · cases hp
        rename_i hx
        dsimp only
        have a1 := Int.mul_le_mul_of_nonneg_left u1 (show 0 ≤ x - Y by omega)
        have a2 := Int.mul_le_mul_of_nonneg_left d1 (show 0 ≤ x - X by omega)
        have e1 : (x - Y) * (S * (X - x)) = (x - X) * (S * (Y - x)) := by grind
        have e2 : (x - Y) * (T * (d * H - n)) - (x - X) * (T * (d * M - n)) = T * ((H * (X - Y) + (H - M) * (x - X)) * d - n * (X - Y)) := by grind
        have : 0 ≤ (H * (X - Y) + (H - M) * (x - X)) * d - n * (X - Y) := le_of_mulT hT (by rw [Int.mul_zero]; omega)
        omega
      · split at hp
        · cases hp
          rename_i hx
          dsimp only
          have a1 := Int.mul_le_mul_of_nonneg_left u1 (show 0 ≤ Y - x by omega)
          have a2 := Int.mul_le_mul_of_nonneg_left d1 (show 0 ≤ X - x by omega)
          have e1 : (Y - x) * (S * (X - x)) = (X - x) * (S * (Y - x)) := by grind
          have e2 : (Y - x) * (T * (d * H - n)) - (X - x) * (T * (d * M - n)) = T * ((H * (Y - X) + (H - M) * (X - x)) * d - n * (Y - X)) := by grind
          have : 0 ≤ (H * (Y - X) + (H - M) * (X - x)) * d - n * (Y - X) := le_of_mulT hT (by rw [Int.mul_zero]; omega)
          omega
        · cases hp
/-- a line that passes the corners passes all gates -/
theorem line_corners {l : List Gt} (o : Ok l) {x n d S T : Int} (hd : 0 < d) (hT : 0 < T) (hu : ∀ j, j ∈ Un l → S * ((gt l j).x - x) ≤ T * (d * (gt l j).hi - n)) (hn : ∀ i, i ∈ Ln l → T * (d * (gt l i).lo - n) ≤ S * ((gt l i).x - x)) : LineAt l x n d S T := by
  have hq : 0 ≤ T * d := Int.le_of_lt (Int.mul_pos hT hd)
  constructor
  · intro j hj
    obtain ⟨j', h1, h2⟩ := corner_min (x := Xs l) (y := His l) o.lt S (T * d) hq j hj
    have h3 := hu j' (Un_mem.2 h1)
    unfold Xs His at h2
    have e1 : T * (d * (gt l j').hi - n) - S * ((gt l j').x - x) = (T * d * (gt l j').hi - S * (gt l j').x) + (S * x - T * n) := by grind
    have e2 : T * (d * (gt l j).hi - n) - S * ((gt l j).x - x) = (T * d * (gt l j).hi - S * (gt l j).x) + (S * x - T * n) := by grind
    omega
  · intro i hi
    obtain ⟨i', h1, h2⟩ := corner_min (x := Xs l) (y := Los l) o.lt (-S) (T * d) hq i hi
    have h3 := hn i' (Ln_mem.2 h1)
    unfold Xs Los at h2
    have e1 : S * ((gt l i').x - x) - T * (d * (gt l i').lo - n) = (T * d * -(gt l i').lo - -S * (gt l i').x) - (S * x - T * n) := by grind
    have e2 : S * ((gt l i).x - x) - T * (d * (gt l i).lo - n) = (T * d * -(gt l i).lo - -S * (gt l i).x) - (S * x - T * n) := by grind
    omega
/-- a line of a slope that suits all gates -/
theorem line_of_fe {l : List Gt} (o : Ok l) {p q : Int} (hq : 0 < q) (h : ∀ i j, i < l.length → j < l.length → Fe l p q i j) (x : Int) : ∃ V, LineAt l x V q p 1 := by
  obtain ⟨m, h1, h2⟩ := frac_max ((List.range l.length).map fun i => (q * (gt l i).lo - p * (gt l i).x, (1 : Int))) (fun e => by have h1 := congrArg List.length e; rw [List.length_map, List.length_range, List.length_nil] at h1; have := o.pos; omega) (fun r hr => by
    obtain ⟨i, _, rfl⟩ := List.mem_map.1 hr; show (0 : Int) < 1; decide)
  obtain ⟨k, hk, rfl⟩ := List.mem_map.1 h1
  rw [List.mem_range] at hk
  refine ⟨q * (gt l k).lo - p * (gt l k).x + p * x, ⟨fun j hj => ?_, fun i hi => ?_⟩⟩
  · have := h k j hk hj
    unfold Fe at this
    rw [Int.mul_sub, Int.one_mul]
    omega
  · have := h2 _ (List.mem_map.2 ⟨i, List.mem_range.2 hi, rfl⟩)
    dsimp only at this
    rw [Int.one_mul, Int.mul_sub]
    omega
theorem hAll_mem {l : List Gt} {U L : List Nat} {x : Int} {p : Int × Int} : p ∈ hAll l U L x ↔ ∃ j, j ∈ U ∧ (p ∈ hO l x j ∨ (∃ k, k ∈ U ∧ p ∈ hUp l x j k) ∨ ∃ i, i ∈ L ∧ p ∈ hLp l x j i) := by
  unfold hAll hJ
  simp only [List.mem_flatMap, List.mem_append, or_assoc]
theorem corner_bound {l : List Gt} {U L : List Nat} {x : Int} (hU : ∀ k, k ∈ U → k < l.length) (hL : ∀ k, k ∈ L → k < l.length) {p : Int × Int} (h : p ∈ hAll l U L x) : ∃ i j, i < l.length ∧ j < l.length ∧ bP l x i j = some p := by
  obtain ⟨j, hj, h | ⟨k, hk, h⟩ | ⟨i, hi, h⟩⟩ := hAll_mem.1 h
  · unfold hO at h
    split at h
    · rw [List.mem_singleton.1 h]
      exact ⟨j, j, hU j hj, hU j hj, by unfold bP; rw [if_pos (by omega)]⟩
    · cases h
  · unfold hUp at h
    split at h
    · rw [List.mem_singleton.1 h]
      exact ⟨j, k, hU j hj, hU k hk, by unfold bP; rw [if_neg (by omega), if_pos ⟨by omega, by omega⟩]⟩
    · cases h
  · unfold hLp at h
    split at h
    · rw [List.mem_singleton.1 h]
      exact ⟨j, i, hU j hj, hL i hi, by unfold bP; rw [if_neg (by omega), if_neg (by omega), if_pos ⟨by omega, by omega⟩]⟩
    · split at h
      · rw [List.mem_singleton.1 h]
        exact ⟨j, i, hU j hj, hL i hi, by unfold bP; rw [if_neg (by omega), if_neg (by omega), if_neg (by omega), if_pos ⟨by omega, by omega⟩]⟩
      · cases h
theorem vOut_mem {l : List Gt} {x : Int} {p : Int × Int} : p ∈ vOut l x l.length ↔ ∃ i j, i < l.length ∧ j < l.length ∧ bP l x i j = some p := by
  unfold vOut vIn
  simp only [List.mem_flatMap, List.mem_range, Option.mem_toList]
  constructor
  · rintro ⟨i, hi, j, hj, h⟩; exact ⟨i, j, hi, hj, h⟩
  · rintro ⟨i, j, hi, hj, h⟩; exact ⟨i, hi, j, hj, h⟩
theorem bP_rp {l : List Gt} (o : Ok l) {x : Int} (hx : 0 ≤ x ∧ x ≤ 1073741824) {i j : Nat} (hi : i < l.length) (hj : j < l.length) {p : Int × Int} (hp : bP l x i j = some p) : RP p ∧ p.1 < 4611686018427387904 := by
  have ri := o.rng i hi
  have rj := o.rng j hj
  unfold bP at hp
  generalize (gt l i).x = X at *
  generalize (gt l i).hi = H at *
  generalize (gt l j).x = Y at *
  generalize (gt l j).hi = K at *
  generalize (gt l j).lo = M at *
  split at hp
  · cases hp; exact ⟨⟨by show (0 : Int) < 1; decide, by dsimp only; omega, by dsimp only; omega, by dsimp only; omega⟩, by dsimp only; omega⟩
  · split at hp
    · cases hp
      have p1 := mul_bd (a := H) (b := Y - x) (A := 1073741824) (B := 1073741824) (by omega) (by omega)
      have p2 := mul_bd (a := K) (b := x - X) (A := 1073741824) (B := 1073741824) (by omega) (by omega)
      exact ⟨⟨by dsimp only; omega, by dsimp only; omega, by dsimp only; omega, by dsimp only; omega⟩, by dsimp only; omega⟩
    · split at hp
      · cases hp
        have p1 := mul_bd (a := H) (b := X - Y) (A := 1073741824) (B := 1073741824) (by omega) (by omega)
        have p2 := mul_bd (a := H - M) (b := x - X) (A := 2147483648) (B := 1073741824) (by omega) (by omega)
        exact ⟨⟨by dsimp only; omega, by dsimp only; omega, by dsimp only; omega, by dsimp only; omega⟩, by dsimp only; omega⟩
      · split at hp
        · cases hp
          have p1 := mul_bd (a := H) (b := Y - X) (A := 1073741824) (B := 1073741824) (by omega) (by omega)
          have p2 := mul_bd (a := H - M) (b := X - x) (A := 2147483648) (B := 1073741824) (by omega) (by omega)
          exact ⟨⟨by dsimp only; omega, by dsimp only; omega, by dsimp only; omega, by dsimp only; omega⟩, by dsimp only; omega⟩
        · cases hp
end Go.Proofs.Ytlblocieleildaa
end
section
set_option linter.unusedSimpArgs false
set_option linter.unusedVariables false
namespace Go.Proofs.Ytlblocieleildaa
open Go.Am Go.Plain

theorem pair_feas {n d V Q P a b H L : Int} (hd : 0 < d) (hQ : 0 < Q) (hv : V * d ≤ n * Q) (ha : 0 ≤ a) (hb : 0 ≤ b) (hab : a ≤ b) (hu : a * (P * b) ≤ a * (Q * H - V)) (hl : b * (Q * L - V) ≤ b * (P * a)) : (d * L - n) * b ≤ (d * H - n) * a := by
  have e1 : a * (P * b) = b * (P * a) := by grind
  have t1 : 0 ≤ d * (a * (Q * H - V) - b * (Q * L - V)) := Int.mul_nonneg (Int.le_of_lt hd) (by omega)
  have t2 : 0 ≤ (n * Q - V * d) * (b - a) := Int.mul_nonneg (by omega) (by omega)
  have e2 : Q * ((d * H - n) * a - (d * L - n) * b) = d * (a * (Q * H - V) - b * (Q * L - V)) + (n * Q - V * d) * (b - a) := by grind
  have t3 : 0 ≤ (d * H - n) * a - (d * L - n) * b := le_of_mulT hQ (by rw [Int.mul_zero, e2]; omega)
  omega
theorem line_exists {l : List Gt} (o : Ok l) {x n d V Q P : Int} (hd : 0 < d) (hQ : 0 < Q) (hv : V * d ≤ n * Q) (ln : LineAt l x V Q P 1) (hb : ∀ p, p ∈ hAll l (Un l) (Ln l) x → n * p.2 ≤ p.1 * d) : ∃ S T, 0 < T ∧ LineAt l x n d S T := by
  have up : ∀ j, j ∈ Un l → P * ((gt l j).x - x) ≤ Q * (gt l j).hi - V := fun j hj => by have := ln.up j (Un_lt j hj); rw [Int.one_mul] at this; exact this
  have dn : ∀ i, i ∈ Ln l → Q * (gt l i).lo - V ≤ P * ((gt l i).x - x) := fun i hi => by have := ln.dn i (Ln_lt i hi); rw [Int.one_mul] at this; exact this
  generalize hps : ((Ln l).filter fun i => decide (x < (gt l i).x)).map (fun i => (d * (gt l i).lo - n, (gt l i).x - x)) ++ ((Un l).filter fun j => decide ((gt l j).x < x)).map (fun j => (n - d * (gt l j).hi, x - (gt l j).x)) = ps
  generalize hqs : ((Un l).filter fun j => decide (x < (gt l j).x)).map (fun j => (d * (gt l j).hi - n, (gt l j).x - x)) ++ ((Ln l).filter fun i => decide ((gt l i).x < x)).map (fun i => (n - d * (gt l i).lo, x - (gt l i).x)) = qs
  have mp : ∀ p, p ∈ ps ↔ (∃ i, i ∈ Ln l ∧ x < (gt l i).x ∧ p = (d * (gt l i).lo - n, (gt l i).x - x)) ∨ ∃ j, j ∈ Un l ∧ (gt l j).x < x ∧ p = (n - d * (gt l j).hi, x - (gt l j).x) := fun p => by
    rw [← hps, List.mem_append, List.mem_map, List.mem_map]
    constructor
    · rintro (⟨i, h, rfl⟩ | ⟨i, h, rfl⟩)
      · rw [List.mem_filter, decide_eq_true_eq] at h; exact .inl ⟨i, h.1, h.2, rfl⟩
      · rw [List.mem_filter, decide_eq_true_eq] at h; exact .inr ⟨i, h.1, h.2, rfl⟩
    · rintro (⟨i, h1, h2, rfl⟩ | ⟨i, h1, h2, rfl⟩)
      · exact .inl ⟨i, by rw [List.mem_filter, decide_eq_true_eq]; exact ⟨h1, h2⟩, rfl⟩
      · exact .inr ⟨i, by rw [List.mem_filter, decide_eq_true_eq]; exact ⟨h1, h2⟩, rfl⟩
  have mq : ∀ p, p ∈ qs ↔ (∃ j, j ∈ Un l ∧ x < (gt l j).x ∧ p = (d * (gt l j).hi - n, (gt l j).x - x)) ∨ ∃ i, i ∈ Ln l ∧ (gt l i).x < x ∧ p = (n - d * (gt l i).lo, x - (gt l i).x) := fun p => by
    rw [← hqs, List.mem_append, List.mem_map, List.mem_map]
    constructor
    · rintro (⟨i, h, rfl⟩ | ⟨i, h, rfl⟩)
      · rw [List.mem_filter, decide_eq_true_eq] at h; exact .inl ⟨i, h.1, h.2, rfl⟩
      · rw [List.mem_filter, decide_eq_true_eq] at h; exact .inr ⟨i, h.1, h.2, rfl⟩
    · rintro (⟨i, h1, h2, rfl⟩ | ⟨i, h1, h2, rfl⟩)
      · exact .inl ⟨i, by rw [List.mem_filter, decide_eq_true_eq]; exact ⟨h1, h2⟩, rfl⟩
      · exact .inr ⟨i, by rw [List.mem_filter, decide_eq_true_eq]; exact ⟨h1, h2⟩, rfl⟩
  obtain ⟨S, T, hT, h1, h2⟩ := frac_between ps qs (fun p hp => by
      rcases (mp p).1 hp with ⟨i, _, h, rfl⟩ | ⟨i, _, h, rfl⟩ <;> dsimp only <;> omega) (fun p hp => by
      rcases (mq p).1 hp with ⟨i, _, h, rfl⟩ | ⟨i, _, h, rfl⟩ <;> dsimp only <;> omega) (fun p hp q hq => by
      rcases (mp p).1 hp with ⟨i, hi, hxi, rfl⟩ | ⟨i, hi, hxi, rfl⟩ <;> rcases (mq q).1 hq with ⟨j, hj, hxj, rfl⟩ | ⟨j, hj, hxj, rfl⟩ <;> dsimp only
      · -- a lower end and an upper end, both behind x
        have hu := up j hj
        have hl := dn i hi
        by_cases hc : (gt l j).x < (gt l i).x
        · have hbd := hb _ (hAll_mem.2 ⟨j, hj, .inr (.inr ⟨i, hi, by unfold hLp; rw [if_neg (by omega), if_pos ⟨by omega, by omega⟩]; exact List.mem_singleton.2 rfl⟩)⟩)
          dsimp only at hbd
          have e : (d * (gt l j).hi - n) * ((gt l i).x - x) - (d * (gt l i).lo - n) * ((gt l j).x - x) = ((gt l j).hi * ((gt l i).x - (gt l j).x) + ((gt l j).hi - (gt l i).lo) * ((gt l j).x - x)) * d - n * ((gt l i).x - (gt l j).x) := by grind
          omega
        · exact pair_feas hd hQ hv (by omega) (by omega) (by omega) (Int.mul_le_mul_of_nonneg_left hu (by omega)) (Int.mul_le_mul_of_nonneg_left hl (by omega))
      · -- two lower ends
        have hl := dn i hi
        have hl' := dn j hj
        have t1 := Int.mul_le_mul_of_nonneg_left hl (show 0 ≤ x - (gt l j).x by omega)
        have t2 := Int.mul_le_mul_of_nonneg_left hl' (show 0 ≤ (gt l i).x - x by omega)
        have t3 : 0 ≤ (n * Q - V * d) * ((gt l i).x - (gt l j).x) := Int.mul_nonneg (by omega) (by omega)
        have e1 : (x - (gt l j).x) * (P * ((gt l i).x - x)) + ((gt l i).x - x) * (P * ((gt l j).x - x)) = 0 := by grind
        have t4 : 0 ≤ d * (0 - (x - (gt l j).x) * (Q * (gt l i).lo - V) - ((gt l i).x - x) * (Q * (gt l j).lo - V)) := Int.mul_nonneg (Int.le_of_lt hd) (by omega)
        have e2 : Q * ((n - d * (gt l j).lo) * ((gt l i).x - x) - (d * (gt l i).lo - n) * (x - (gt l j).x)) = d * (0 - (x - (gt l j).x) * (Q * (gt l i).lo - V) - ((gt l i).x - x) * (Q * (gt l j).lo - V)) + (n * Q - V * d) * ((gt l i).x - (gt l j).x) := by grind
        have t5 : 0 ≤ (n - d * (gt l j).lo) * ((gt l i).x - x) - (d * (gt l i).lo - n) * (x - (gt l j).x) := le_of_mulT hQ (by rw [Int.mul_zero, e2]; omega)
        omega
      · -- two upper ends
        have hbd := hb _ (hAll_mem.2 ⟨i, hi, .inr (.inl ⟨j, hj, by unfold hUp; rw [if_pos ⟨hxi, hxj⟩]; exact List.mem_singleton.2 rfl⟩)⟩)
        dsimp only at hbd
        have e : (d * (gt l j).hi - n) * (x - (gt l i).x) - (n - d * (gt l i).hi) * ((gt l j).x - x) = ((gt l i).hi * ((gt l j).x - x) + (gt l j).hi * (x - (gt l i).x)) * d - n * ((gt l j).x - (gt l i).x) := by grind
        omega
      · -- an upper end and a lower end, both ahead of x
        have hu := up i hi
        have hl := dn j hj
        by_cases hc : (gt l j).x < (gt l i).x
        · have hbd := hb _ (hAll_mem.2 ⟨i, hi, .inr (.inr ⟨j, hj, by unfold hLp; rw [if_pos ⟨hc, hxi⟩]; exact List.mem_singleton.2 rfl⟩)⟩)
          dsimp only at hbd
          have e : (n - d * (gt l j).lo) * (x - (gt l i).x) - (n - d * (gt l i).hi) * (x - (gt l j).x) = ((gt l i).hi * ((gt l i).x - (gt l j).x) + ((gt l i).hi - (gt l j).lo) * (x - (gt l i).x)) * d - n * ((gt l i).x - (gt l j).x) := by grind
          omega
        · have a1 := Int.mul_le_mul_of_nonneg_left hu (show 0 ≤ x - (gt l j).x by omega)
          have a2 := Int.mul_le_mul_of_nonneg_left hl (show 0 ≤ x - (gt l i).x by omega)
          have e1 : (x - (gt l j).x) * (P * ((gt l i).x - x)) = (x - (gt l j).x) * (-P * (x - (gt l i).x)) := by grind
          have e2 : (x - (gt l i).x) * (P * ((gt l j).x - x)) = (x - (gt l i).x) * (-P * (x - (gt l j).x)) := by grind
          have := pair_feas (n := n) (d := d) (V := V) (Q := Q) (P := -P) (a := x - (gt l j).x) (b := x - (gt l i).x) (H := (gt l i).hi) (L := (gt l j).lo) hd hQ hv (by omega) (by omega) (by omega) (by omega) (by omega)
          have e3 : (n - d * (gt l j).lo) * (x - (gt l i).x) = -((d * (gt l j).lo - n) * (x - (gt l i).x)) := by grind
          have e4 : (n - d * (gt l i).hi) * (x - (gt l j).x) = -((d * (gt l i).hi - n) * (x - (gt l j).x)) := by grind
          omega)
  refine ⟨S, T, hT, line_corners o hd hT (fun j hj => ?_) (fun i hi => ?_)⟩
  · by_cases c1 : x < (gt l j).x
    · have := h2 _ ((mq _).2 (.inl ⟨j, hj, c1, rfl⟩))
      dsimp only at this
      rw [Int.mul_comm T]
      exact this
    by_cases c2 : (gt l j).x < x
    · have := h1 _ ((mp _).2 (.inr ⟨j, hj, c2, rfl⟩))
      dsimp only at this
      have e1 : S * ((gt l j).x - x) = -(S * (x - (gt l j).x)) := by grind
      have e2 : T * (d * (gt l j).hi - n) = -((n - d * (gt l j).hi) * T) := by grind
      omega
    · have hx : (gt l j).x = x := by omega
      have hbd := hb _ (hAll_mem.2 ⟨j, hj, .inl (by unfold hO; rw [if_pos hx]; exact List.mem_singleton.2 rfl)⟩)
      dsimp only at hbd
      rw [Int.mul_one, Int.mul_comm] at hbd
      rw [hx, Int.sub_self, Int.mul_zero]
      exact Int.mul_nonneg (Int.le_of_lt hT) (by omega)
  · by_cases c1 : x < (gt l i).x
    · have := h1 _ ((mp _).2 (.inl ⟨i, hi, c1, rfl⟩))
      dsimp only at this
      rw [Int.mul_comm T]
      exact this
    by_cases c2 : (gt l i).x < x
    · have := h2 _ ((mq _).2 (.inr ⟨i, hi, c2, rfl⟩))
      dsimp only at this
      have e1 : S * ((gt l i).x - x) = -(S * (x - (gt l i).x)) := by grind
      have e2 : T * (d * (gt l i).lo - n) = -((n - d * (gt l i).lo) * T) := by grind
      omega
    · have hx : (gt l i).x = x := by omega
      have hl := dn i hi
      rw [hx, Int.sub_self, Int.mul_zero] at hl ⊢
      have e1 : Q * (n - d * (gt l i).lo) = (n * Q - V * d) + d * (V - Q * (gt l i).lo) := by grind
      have t1 : 0 ≤ d * (V - Q * (gt l i).lo) := Int.mul_nonneg (Int.le_of_lt hd) (by omega)
      have t2 : 0 ≤ n - d * (gt l i).lo := le_of_mulT hQ (by rw [Int.mul_zero, e1]; omega)
      exact Int.mul_nonpos_of_nonneg_of_nonpos (Int.le_of_lt hT) (by omega)
theorem hAll_ne {l : List Gt} (o : Ok l) {x : Int} (h : l.length = 1 → x = (gt l 0).x) : hAll l (Un l) (Ln l) x ≠ [] := by
  intro he
  have key : ∀ p, p ∈ hAll l (Un l) (Ln l) x → False := fun p hp => by rw [he] at hp; cases hp
  have u0 : 0 ∈ Un l := Un_mem.2 (stack_first o.lt o.pos)
  have u1 : l.length - 1 ∈ Un l := Un_mem.2 (stack_last o.lt o.pos)
  have l0 : 0 ∈ Ln l := Ln_mem.2 (stack_first o.lt o.pos)
  have l1 : l.length - 1 ∈ Ln l := Ln_mem.2 (stack_last o.lt o.pos)
  by_cases c0 : (gt l 0).x = x
  · exact key _ (hAll_mem.2 ⟨0, u0, .inl (by unfold hO; rw [if_pos c0]; exact List.mem_singleton.2 rfl)⟩)
  have hn : 2 ≤ l.length := by
    have := o.pos
    rcases Nat.lt_or_ge 1 l.length with h1 | h1
    · omega
    · exact absurd (h (by omega)).symm c0
  have hx := o.lt 0 (l.length - 1) (by omega) (by omega)
  by_cases c1 : (gt l (l.length - 1)).x = x
  · exact key _ (hAll_mem.2 ⟨_, u1, .inl (by unfold hO; rw [if_pos c1]; exact List.mem_singleton.2 rfl)⟩)
  by_cases c2 : x < (gt l 0).x
  · exact key _ (hAll_mem.2 ⟨0, u0, .inr (.inr ⟨_, l1, by unfold hLp; rw [if_neg (by omega), if_pos ⟨c2, hx⟩]; exact List.mem_singleton.2 rfl⟩)⟩)
  by_cases c3 : (gt l (l.length - 1)).x < x
  · exact key _ (hAll_mem.2 ⟨_, u1, .inr (.inr ⟨0, l0, by unfold hLp; rw [if_pos ⟨hx, c3⟩]; exact List.mem_singleton.2 rfl⟩)⟩)
  · exact key _ (hAll_mem.2 ⟨0, u0, .inr (.inl ⟨_, u1, by unfold hUp; rw [if_pos ⟨by omega, by omega⟩]; exact List.mem_singleton.2 rfl⟩)⟩)
theorem high_min {l : List Gt} (o : Ok l) {x : Int} (hx : 0 ≤ x ∧ x ≤ 1073741824) (h : l.length = 1 → x = (gt l 0).x) : IsMin (hAll l (Un l) (Ln l) x) (gF (hAll l (Un l) (Ln l) x)) :=
  min_from (b0 := bd0) (.inl rfl) _ (hAll_ne o h) (fun p hp => by
    obtain ⟨i, j, hi, hj, hb⟩ := corner_bound Un_lt Ln_lt hp
    exact (bP_rp o hx hi hj hb).1) (fun p hp => .inl rfl)
theorem highR_min {l : List Gt} (o : Ok l) {x : Int} (hx : 0 ≤ x ∧ x ≤ 1073741824) (h : l.length = 1 → x = (gt l 0).x) : IsMin (vOut l x l.length) (gV (vOut l x l.length)) := by
  refine min_from (b0 := bdV) (.inr ⟨rfl, by decide, by decide, by decide, by decide, by decide⟩) _ (fun he => ?_) (fun p hp => ?_) (fun p hp => .inr ?_)
  · obtain ⟨p, hp⟩ := List.exists_mem_of_ne_nil _ (hAll_ne o h)
    obtain ⟨i, j, hi, hj, hb⟩ := corner_bound Un_lt Ln_lt hp
    have := vOut_mem.2 ⟨i, j, hi, hj, hb⟩
    rw [he] at this; cases this
  · obtain ⟨i, j, hi, hj, hb⟩ := vOut_mem.1 hp
    exact (bP_rp o hx hi hj hb).1
  · obtain ⟨i, j, hi, hj, hb⟩ := vOut_mem.1 hp
    obtain ⟨k1, k2⟩ := bP_rp o hx hi hj hb
    have := k1.d0
    show p.1 * 1 < 4611686018427387904 * p.2
    omega
/-- the corners' bound is the bound of all -/
theorem high_eq {l : List Gt} (o : Ok l) {x : Int} (hx : 0 ≤ x ∧ x ≤ 1073741824) (h : l.length = 1 → x = (gt l 0).x) (hf : ∃ p q, 0 < q ∧ (∀ i j, i < l.length → j < l.length → Fe l p q i j)) : gF (hAll l (Un l) (Ln l) x) = gV (vOut l x l.length) := by
  have g := high_min o hx h
  have r := highR_min o hx h
  generalize gF (hAll l (Un l) (Ln l) x) = G at *
  generalize gV (vOut l x l.length) = R at *
  obtain ⟨p, q, hq, hfe⟩ := hf
  obtain ⟨V, ln⟩ := line_of_fe o hq hfe x
  have pos : ∀ r, r ∈ vOut l x l.length → 0 < r.2 := fun r hr => by
    obtain ⟨i, j, hi, hj, hb⟩ := vOut_mem.1 hr; exact bP_pos hb
  have hv : V * G.d ≤ G.n * q := by
    obtain ⟨c, hc, he⟩ := g.att
    obtain ⟨i, j, hi, hj, hb⟩ := corner_bound Un_lt Ln_lt hc
    exact fr_trans hq (bP_pos hb) g.low.d0 (line_bound hq (by decide) ln hi hj hb) (Int.le_of_eq he.symm)
  obtain ⟨S, T, hT, lg⟩ := line_exists o g.low.d0 hq hv ln g.le
  refine low_eq' g.low r.low (min_le g.low r pos fun c hc => ?_) (min_le r.low g (fun c hc => ?_) fun c hc => ?_)
  · obtain ⟨i, j, hi, hj, hb⟩ := vOut_mem.1 hc
    exact line_bound g.low.d0 hT lg hi hj hb
  · obtain ⟨i, j, hi, hj, hb⟩ := corner_bound Un_lt Ln_lt hc; exact bP_pos hb
  · obtain ⟨i, j, hi, hj, hb⟩ := corner_bound Un_lt Ln_lt hc
    exact r.le c (vOut_mem.2 ⟨i, j, hi, hj, hb⟩)
end Go.Proofs.Ytlblocieleildaa
end
section
set_option linter.unusedSimpArgs false
set_option linter.unusedVariables false
namespace Go.Proofs.Ytlblocieleildaa
open Go.Am Go.Plain

theorem gt_out {l : List Gt} {i : Nat} (h : l.length ≤ i) : gt l i = ⟨0, 0, 0⟩ := by
  unfold gt; rw [List.getD_eq_getElem?_getD, List.getElem?_eq_none h]; rfl
theorem turned_fun (l : List Gt) (i : Nat) : gt (turnedL l) i = ⟨(gt l i).x, -(gt l i).hi, -(gt l i).lo⟩ := by
  by_cases h : i < l.length
  · exact turnedL_at l i h
  · rw [gt_out (l := turnedL l) (by rw [turnedL_len]; omega), gt_out (l := l) (by omega)]; rfl
theorem Un_turned (l : List Gt) : Un (turnedL l) = Ln l := by
  unfold Un Ln
  rw [turnedL_len]
  have e1 : Xs (turnedL l) = Xs l := by funext i; unfold Xs; rw [turned_fun]
  have e2 : His (turnedL l) = Los l := by funext i; unfold His Los; rw [turned_fun]
  rw [e1, e2]
theorem Ln_turned (l : List Gt) : Ln (turnedL l) = Un l := by
  unfold Un Ln
  rw [turnedL_len]
  have e1 : Xs (turnedL l) = Xs l := by funext i; unfold Xs; rw [turned_fun]
  have e2 : Los (turnedL l) = His l := by funext i; unfold His Los; rw [turned_fun]; dsimp only; omega
  rw [e1, e2]
theorem feas {l : List Gt} (o : Ok l) (hp : passP l = true) : ∃ p q, 0 < q ∧ ∀ i j, i < l.length → j < l.length → Fe l p q i j := by
  by_cases h1 : l.length = 1
  · refine ⟨0, 1, by decide, fun i j hi hj => ?_⟩
    have : i = j := by omega
    subst this
    exact fe_same o (by decide) hi
  · have h2 : 2 ≤ l.length := by have := o.pos; omega
    have gr := greatR_min o h2
    have kr := leastR_max o h2
    rw [pass_eq] at hp
    unfold passR at hp
    rw [if_pos ((checkZ_ok l).2 o)] at hp
    have hle : (leastR l).n * (greatR l).d ≤ (greatR l).n * (leastR l).d := Int.not_lt.1 fun h => by rw [(less_low gr.low kr.low).2 h] at hp; cases hp
    exact ⟨_, _, gr.low.d0, fe_of_ref o (Int.le_of_lt gr.low.d0) gr.le (fun r hr => fr_trans (rlP_pos o r hr) kr.low.d0 gr.low.d0 (kr.ge r hr) hle)⟩
theorem feas_turned {l : List Gt} (h : ∃ p q, 0 < q ∧ ∀ i j, i < l.length → j < l.length → Fe l p q i j) : ∃ p q, 0 < q ∧ ∀ i j, i < (turnedL l).length → j < (turnedL l).length → Fe (turnedL l) p q i j := by
  obtain ⟨p, q, hq, h⟩ := h
  refine ⟨-p, q, hq, fun i j hi hj => ?_⟩
  rw [turnedL_len] at hi hj
  have := h j i hj hi
  unfold Fe at this ⊢
  rw [turned_fun, turned_fun]
  dsimp only
  rw [Int.mul_neg, Int.mul_neg, Int.neg_mul, Int.neg_mul]
  omega
theorem at_eq (l : List Gt) (x : Int) : atP l x = atR l x := by
  unfold atP atR
  rw [pass_eq]
  by_cases hz : checkZ l = 0
  · rw [if_pos hz, if_pos hz]
    by_cases hx : x < 0 ∨ 1073741824 < x
    · rw [if_pos hx, if_pos hx]
    rw [if_neg hx, if_neg hx]
    by_cases hc : (l.length = 1 ∧ x ≠ (gt l 0).x) ∨ passR l = false
    · rw [if_pos hc, if_pos hc]
    rw [if_neg hc, if_neg hc]
    have o := (checkZ_ok l).1 hz
    have hp : passP l = true := by
      rw [pass_eq]
      cases h : passR l
      · exact absurd (.inr h) hc
      · rfl
    have h1 : l.length = 1 → x = (gt l 0).x := fun h => Classical.not_not.1 fun hn => hc (.inl ⟨h, hn⟩)
    have hf := feas o hp
    have e1 : highP l x = highR l x := high_eq o (by omega) h1 hf
    have e2 : lowBP l x = lowBR l x := by
      have := high_eq o.turned (x := x) (by omega) (fun h => by rw [turned_fun]; exact h1 (by rw [turnedL_len] at h; exact h)) (feas_turned hf)
      rw [Un_turned, Ln_turned, turnedL_len] at this
      exact this
    rw [e1, e2]
  · rw [if_neg hz, if_neg hz]
end Go.Proofs.Ytlblocieleildaa
end
section
set_option linter.unusedSimpArgs false
set_option linter.unusedVariables false
namespace Go.Proofs.Ytlblocieleildaa
open Go.Am Go.Plain

/-- the gates without the k-th -/
def less1 (l : List Gt) (k : Nat) : List Gt := l.take k ++ l.drop (k + 1)
theorem less1_len {l : List Gt} {k : Nat} (hk : k < l.length) : (less1 l k).length = l.length - 1 := by
  unfold less1; rw [List.length_append, List.length_take, List.length_drop]; omega
/-- where a gate of the shorter list stood -/
def emb (k i : Nat) : Nat := if i < k then i else i + 1
theorem less1_at {l : List Gt} {k : Nat} (hk : k < l.length) (i : Nat) : gt (less1 l k) i = gt l (emb k i) := by
  unfold gt less1 emb
  rw [List.getD_eq_getElem?_getD, List.getD_eq_getElem?_getD]
  by_cases h : i < k
  · rw [if_pos h, List.getElem?_append_left (by rw [List.length_take]; omega), List.getElem?_take, if_pos h]
  · rw [if_neg h, List.getElem?_append_right (by rw [List.length_take]; omega), List.length_take, List.getElem?_drop]
    congr 2
    omega
theorem emb_lt {n k i : Nat} (hi : i < n - 1) (hk : k < n) : emb k i < n := by unfold emb; split <;> omega
theorem less1_ok {l : List Gt} (o : Ok l) {k : Nat} (hk : k < l.length) (h2 : 2 ≤ l.length) : Ok (less1 l k) := by
  have hl := less1_len hk
  refine ⟨by omega, fun i hi => ?_, fun i hi => ?_⟩
  · rw [less1_at hk]; exact o.rng _ (emb_lt (by omega) hk)
  · rw [less1_at hk, less1_at hk]
    exact o.lt _ _ (by unfold emb; split <;> split <;> omega) (emb_lt (by omega) hk)
theorem less1_fe {l : List Gt} {k : Nat} (hk : k < l.length) {p q : Int} (h : AllFe l p q) : AllFe (less1 l k) p q := fun i j hi hj => by
  have hl := less1_len hk
  have := h (emb k i) (emb k j) (emb_lt (by omega) hk) (emb_lt (by omega) hk)
  unfold Fe at this ⊢
  rw [less1_at hk, less1_at hk]
  exact this
theorem less1_bP {l : List Gt} {k : Nat} (hk : k < l.length) (x : Int) (i j : Nat) : bP (less1 l k) x i j = bP l x (emb k i) (emb k j) := by
  unfold bP; rw [less1_at hk, less1_at hk]
theorem turned_less1 (l : List Gt) (k : Nat) : turnedL (less1 l k) = less1 (turnedL l) k := by
  unfold turnedL less1; rw [List.map_append, List.map_take, List.map_drop]
/-- the greatest value is at most as great with more gates -/
theorem highR_less {l : List Gt} (o : Ok l) {k : Nat} (hk : k < l.length) (h3 : 3 ≤ l.length) {x : Int} (hx : 0 ≤ x ∧ x ≤ 1073741824) : (highR l x).n * (highR (less1 l k) x).d ≤ (highR (less1 l k) x).n * (highR l x).d := by
  have hl := less1_len hk
  have o' := less1_ok o hk (by omega)
  have r := highR_min o hx (fun h => by omega)
  have r' := highR_min o' hx (fun h => by omega)
  refine min_le r.low r' (fun c hc => ?_) fun c hc => ?_
  · obtain ⟨i, j, hi, hj, hb⟩ := vOut_mem.1 hc; exact bP_pos hb
  · obtain ⟨i, j, hi, hj, hb⟩ := vOut_mem.1 hc
    rw [less1_bP hk] at hb
    exact r.le c (vOut_mem.2 ⟨_, _, emb_lt (by omega) hk, emb_lt (by omega) hk, hb⟩)
theorem lowBR_turn (l : List Gt) (x : Int) : lowBR l x = highR (turnedL l) x := by unfold lowBR highR; rw [turnedL_len]
theorem lowBR_less {l : List Gt} (o : Ok l) {k : Nat} (hk : k < l.length) (h3 : 3 ≤ l.length) {x : Int} (hx : 0 ≤ x ∧ x ≤ 1073741824) : (lowBR l x).n * (lowBR (less1 l k) x).d ≤ (lowBR (less1 l k) x).n * (lowBR l x).d := by
  rw [lowBR_turn, lowBR_turn, turned_less1]
  exact highR_less o.turned (by rw [turnedL_len]; exact hk) (by rw [turnedL_len]; exact h3) hx
/-- at the time of a gate the greatest value is at most its upper end -/
theorem highR_at {l : List Gt} (o : Ok l) {k : Nat} (hk : k < l.length) (h2 : 2 ≤ l.length) : (highR l (gt l k).x).n * 1 ≤ (gt l k).hi * (highR l (gt l k).x).d := by
  have hr := o.rng k hk
  have r := highR_min o (x := (gt l k).x) ⟨hr.1, hr.2.1⟩ (fun h => by omega)
  exact r.le ((gt l k).hi, 1) (vOut_mem.2 ⟨k, k, hk, hk, by unfold bP; rw [if_pos rfl]⟩)
theorem lowBR_at {l : List Gt} (o : Ok l) {k : Nat} (hk : k < l.length) (h2 : 2 ≤ l.length) : (lowBR l (gt l k).x).n * 1 ≤ -(gt l k).lo * (lowBR l (gt l k).x).d := by
  have := highR_at o.turned (k := k) (by rw [turnedL_len]; exact hk) (by rw [turnedL_len]; exact h2)
  rw [turned_fun] at this
  rw [lowBR_turn]
  exact this
/-- a number in lowest terms with its sign changed -/
theorem Low.neg {b : Bd} (h : Low b) : Low ⟨true, -b.n, b.d⟩ := ⟨rfl, h.d0, h.d1, by have := h.n1; show _ ≤ -b.n; omega, by have := h.n0; show -b.n ≤ _; omega, by show Int.gcd (-b.n) b.d = 1; rw [Int.neg_gcd]; exact h.g⟩
/-- what At gives where there are lines -/
theorem atP_val {l : List Gt} (o : Ok l) (hp : passP l = true) (h2 : 2 ≤ l.length) {x : Int} (hx : 0 ≤ x ∧ x ≤ 1073741824) : atP l x = ⟨-(lowBR l x).n, (lowBR l x).d, (highR l x).n, (highR l x).d, 0⟩ ∧ Low (lowBR l x) ∧ Low (highR l x) := by
  have r := highR_min o hx (fun h => by omega)
  have r' := highR_min o.turned hx (fun h => by rw [turnedL_len] at h; omega)
  have lw : Low (lowBR l x) := by rw [lowBR_turn]; exact r'.low
  refine ⟨?_, lw, r.low⟩
  have h0 := lw.n0
  have h1 := lw.n1
  rw [at_eq]
  unfold atR
  rw [if_pos ((checkZ_ok l).2 o), if_neg (by omega), if_neg (by rw [← pass_eq, hp]; simp; omega), w64_in _ (by omega)]
  congr 1
  omega
theorem slP_val {l : List Gt} (o : Ok l) (hp : passP l = true) (h2 : 2 ≤ l.length) : slP l = ⟨(leastR l).n, (leastR l).d, (greatR l).n, (greatR l).d, 0⟩ ∧ (leastR l).n * (greatR l).d ≤ (greatR l).n * (leastR l).d := by
  have gr := greatR_min o h2
  have kr := leastR_max o h2
  have hz := (checkZ_ok l).2 o
  rw [pass_eq] at hp
  unfold passR at hp
  rw [if_pos hz] at hp
  cases hr : lessZ (greatR l).n (greatR l).d (leastR l).n (leastR l).d
  · refine ⟨?_, Int.not_lt.1 fun h => by rw [(less_low gr.low kr.low).2 h] at hr; cases hr⟩
    rw [sl_eq]; unfold slR
    rw [if_pos hz, if_neg (by rw [hr]; simp; omega)]
  · rw [hr] at hp; cases hp
theorem less1_pass {l : List Gt} (o : Ok l) (hp : passP l = true) {k : Nat} (hk : k < l.length) (h3 : 3 ≤ l.length) : passP (less1 l k) = true := by
  have hl := less1_len hk
  have o' := less1_ok o hk (by omega)
  have hle := (slP_val o hp (by omega)).2
  have := ref_pass o o' (by omega) (by omega) (fun p q _ h => less1_fe hk h) hle
  rw [pass_eq]
  unfold passR
  rw [if_pos ((checkZ_ok _).2 o')]
  have gr := greatR_min o' (by omega)
  have kr := leastR_max o' (by omega)
  cases hr : lessZ (greatR (less1 l k)).n (greatR (less1 l k)).d (leastR (less1 l k)).n (leastR (less1 l k)).d
  · rfl
  · have := (less_low gr.low kr.low).1 hr; omega
/-- not less, of numbers in lowest terms -/
theorem nless {a b : Bd} (ha : Low a) (hb : Low b) (h : b.n * a.d ≤ a.n * b.d) : lessZ a.n a.d b.n b.d = false := by
  cases hr : lessZ a.n a.d b.n b.d
  · rfl
  · have := (less_low ha hb).1 hr; omega
end Go.Proofs.Ytlblocieleildaa
end
section
set_option linter.unusedSimpArgs false
set_option linter.unusedVariables false
set_option maxRecDepth 20000
set_option maxHeartbeats 8000000
namespace Go.Proofs.Ytlblocieleildaa
open Go.Am

open Go.Plain
theorem two_new {k kk : Heap} {z1 z2 c1 c2 : Blk} (hk : kk = (((k.alloc z1).alloc z2).set k.next c1).set (k.next + 1) c2) (hw : k.wr ≤ k.next) : Grow k kk ∧ kk.get k.next = some c1 ∧ kk.get (k.next + 1) = some c2 ∧ kk.next = k.next + 1 + 1 ∧ kk.wr ≤ kk.next := by
  subst hk
  have hwr : ((((k.alloc z1).alloc z2).set k.next c1).set (k.next + 1) c2).wr = k.wr := by
    rw [Heap.wr_set, Heap.wr_set, Heap.wr_alloc, Heap.wr_alloc, if_neg (show ¬ k.next < k.wr by omega), if_neg (by omega)]
  refine ⟨⟨by show k.next ≤ k.next + 1 + 1; omega, fun b hb => ?_, hwr⟩, ?_, Heap.get_set_same _ _ _, rfl, by rw [hwr]; show k.wr ≤ k.next + 1 + 1; omega⟩
  · rw [Heap.get_set_ne _ _ (by omega), Heap.get_set_ne _ _ (by omega), Heap.get_alloc_ne _ _ (by show b ≠ k.next + 1; omega), Heap.get_alloc_ne _ _ (by omega)]
  · rw [Heap.get_set_ne _ _ (by omega)]; exact Heap.get_set_same _ _ _
theorem Grow.at {h h1 : Heap} {b : Nat} {x : Blk} (g : Grow h h1) (hb : b < h.next) (hx : h.get b = some x) : h1.get b = some x := (g.get b hb).trans hx
theorem beq_f {a b : Nat} (h : a ≠ b) : Nat.beq a b = false := by
  cases hh : Nat.beq a b
  · rfl
  · exact absurd (Nat.eq_of_beq_eq_true hh) h
theorem ble_f {a b : Nat} (h : b < a) : Nat.ble a b = false := by
  cases hh : Nat.ble a b
  · rfl
  · have := Nat.le_of_ble_eq_true hh; omega
/-- the front of a slice of an argument -/
theorem slice_front {H : Heap} {b n c k : Nat} {blk : Blk} (hb : H.get b = some blk) (hgr : blk.grow = none) (hk : k ≤ c) (hc : 0 < c) : sliceV H 3 none (some (.int .i64 (k : Int))) (some (some (b, 0), n, c)) = some (.val (.slice (some ⟨b, 0, none⟩) k c) [b] .non) := by
  have h1 : cutAt c n (some (.int .i64 (k : Int))) = some k := by
    show (bif Nat.ble k c then some k else none) = _
    rw [Nat.ble_eq_true_of_le hk]; rfl
  have h2 : growOk H 3 b = some true := by unfold growOk; rw [hb]; dsimp only; rw [hgr]
  unfold sliceV
  simp only [h1, Option.bind_some, cutAt, Nat.ble_eq_true_of_le hk, cond_true, h2, beq_f (show 0 ≠ c by omega), cond_false, Nat.sub_zero, Nat.zero_mul, Nat.add_zero]
/-- the end of a slice of an argument: where it begins hangs on the capacity alone -/
theorem slice_end {H : Heap} {b n c k : Nat} {blk : Blk} (hb : H.get b = some blk) (hgr : blk.grow = none) (hk : k ≤ n) (hc : n ≤ c) : ∃ o c', sliceV H 3 (some (.int .i64 (k : Int))) none (some (some (b, 0), n, c)) = some (.val (.slice (some ⟨b, o, none⟩) (n - k) c') [b] .non) ∧ (o = k * 3 ∨ (o = 0 ∧ n - k = 0)) := by
  have h1 : cutAt n 0 (some (.int .i64 (k : Int))) = some k := by
    show (bif Nat.ble k n then some k else none) = _
    rw [Nat.ble_eq_true_of_le hk]; rfl
  have h2 : growOk H 3 b = some true := by unfold growOk; rw [hb]; dsimp only; rw [hgr]
  by_cases he : k = c
  · refine ⟨0, c - k, ?_, .inr ⟨rfl, by omega⟩⟩
    unfold sliceV
    subst he
    simp only [cutAt] at h1
    simp only [cutAt, h1, Option.bind_some, Nat.ble_eq_true_of_le hc, cond_true, h2, Nat.beq_refl]
  · refine ⟨k * 3, c - k, ?_, .inl rfl⟩
    unfold sliceV
    simp only [cutAt] at h1
    simp only [cutAt, h1, Option.bind_some, Nat.ble_eq_true_of_le hc, cond_true, h2, beq_f he, cond_false, Nat.zero_add]
theorem cellsOf_at {H : Heap} {b o m c : Nat} {blk : Blk} {cs : List Value} (hb : H.get b = some blk) (hc : cut blk.cells o (m * 3) = some cs) : cellsOf H 3 (.slice (some ⟨b, o, none⟩) m c) = some ([b], cs, blk.flat, m) := by
  show ((H.get b).bind fun blk => (cut blk.cells o (m * 3)).map fun cs => ([b], cs, blk.flat, m)) = _
  rw [hb, Option.bind_some, hc]; rfl
/-- nothing appended -/
theorem app_none {H : Heap} {b o c kb n cc : Nat} {blk bk : Blk} (hb : H.get b = some blk) (hc : cut blk.cells o (0 * 3) = some []) (hk : H.get kb = some bk) (hn : n ≤ cc) : appendM H (.slice (some ⟨kb, 0, none⟩) n cc) (.slice (some ⟨b, o, none⟩) 0 c) (some (3, 24)) = some (.val (.slice (some ⟨kb, 0, none⟩) n cc) [kb, b] .non) := by
  show appendV H 3 24 _ _ = _
  rw [cellsOf_at hb hc]
  show appendTo H 3 24 (.slice (some ⟨kb, 0, none⟩) n cc) [b] [] blk.flat 0 = _
  unfold appendTo
  simp only [hk, Option.bind_some, Nat.beq_refl, cond_true, Nat.ble_eq_true_of_le hn]
/-- some appended onto a full slice: new, or moved -/
theorem app_some {H : Heap} {b o c kb n m : Nat} {blk : Blk} {cs old : List Value} {fl : Bool} {g : Option Nat} (hb : H.get b = some blk) (hc : cut blk.cells o (m * 3) = some cs) (hm : 0 < m) (hk : H.get kb = some ⟨old, fl, false, g⟩) (ho : old.length = n * 3) (hg : g = none ∨ g = some 3) (hs : (n + m) * 24 ≤ 140737488355328) :
    ∃ fl' f, appendM H (.slice (some ⟨kb, 0, none⟩) n n) (.slice (some ⟨b, o, none⟩) m c) (some (3, 24)) = some (.val (.slice (some ⟨H.next, 0, none⟩) (n + m) (n + m)) [kb, b] f) ∧ (f = .new ⟨old ++ cs, fl', false, some 3⟩ ∨ f = .mv kb ⟨old ++ cs, fl', false, some 3⟩) ∧ (g = none → f = .new ⟨old ++ cs, fl', false, some 3⟩) := by
  have e1 : appendM H (.slice (some ⟨kb, 0, none⟩) n n) (.slice (some ⟨b, o, none⟩) m c) (some (3, 24)) = appendTo H 3 24 (.slice (some ⟨kb, 0, none⟩) n n) [b] cs blk.flat m := by
    show appendV H 3 24 _ _ = _
    rw [cellsOf_at hb hc]; rfl
  have h4 : cut old 0 (n * 3) = some old := by rw [← ho]; unfold cut; rw [Nat.zero_add, Nat.ble_eq_true_of_le (Nat.le_refl _)]; simp
  rw [e1]
  unfold appendTo
  simp only [hk, Option.bind_some, beq_f (show m ≠ 0 by omega), cond_false, ble_f (show n < n + m by omega), Nat.ble_eq_true_of_le hs, cond_true, h4]
  rcases hg with rfl | rfl
  · exact ⟨_, _, rfl, .inl rfl, fun _ => rfl⟩
  · exact ⟨_, _, rfl, .inr rfl, fun h => by cases h⟩
theorem cut_take {l : List Gt} {ext : List Value} {k : Nat} (hk : k ≤ l.length) : cut (gcells l ++ ext) 0 (k * 3) = some (gcells (l.take k)) := by
  have e : gcells l ++ ext = gcells (l.take k) ++ (gcells (l.drop k) ++ ext) := by rw [← List.append_assoc, ← gcells_app2, List.take_append_drop]
  rw [e]
  exact cut_front _ _ _ (by rw [gcells_len, List.length_take]; omega)
theorem cut_drop {l : List Gt} {ext : List Value} {k : Nat} (hk : k ≤ l.length) : cut (gcells l ++ ext) (k * 3) ((l.length - k) * 3) = some (gcells (l.drop k)) := by
  have e : gcells l ++ ext = gcells (l.take k) ++ (gcells (l.drop k) ++ ext) := by rw [← List.append_assoc, ← gcells_app2, List.take_append_drop]
  have h1 : (gcells (l.take k)).length = k * 3 := by rw [gcells_len, List.length_take]; omega
  have h2 : (gcells (l.drop k)).length = (l.length - k) * 3 := by rw [gcells_len, List.length_drop]
  rw [e]
  unfold cut
  rw [Nat.ble_eq_true_of_le (by rw [List.length_append, List.length_append, h1, h2]; omega), ← h1, List.drop_left, ← h2, List.take_left]
  rfl
end Go.Proofs.Ytlblocieleildaa
end
