/- The corners give the same bounds of the value at a time as all gates. -/
import Derived.Test.YtlblocieleildaaSk21
import Derived.Test.YtlblocieleildaaSk31
set_option linter.unusedSimpArgs false
set_option linter.unusedVariables false
namespace Go.Proofs.Ytlblocieleildaa
open Go.Am Go.Plain

theorem frac_max : ∀ (ps : List (Int × Int)), ps ≠ [] → (∀ p, p ∈ ps → 0 < p.2) → ∃ m, m ∈ ps ∧ ∀ p, p ∈ ps → p.1 * m.2 ≤ m.1 * p.2
  | [], h, _ => absurd rfl h
  | [p], _, _ => ⟨p, by simp, fun q hq => by rw [List.mem_singleton.1 hq]; exact Int.le_refl _⟩
  | p :: q :: ps, _, hp => by
    obtain ⟨m, h1, h2⟩ := frac_max (q :: ps) (by simp) (fun r hr => hp r (List.mem_cons_of_mem _ hr))
    have pm := hp m (List.mem_cons_of_mem _ h1)
    have pp := hp p (by simp)
    by_cases hc : p.1 * m.2 ≤ m.1 * p.2
    · refine ⟨m, List.mem_cons_of_mem _ h1, fun r hr => ?_⟩
      rcases List.mem_cons.1 hr with rfl | hr
      · exact hc
      · exact h2 r hr
    · refine ⟨p, by simp, fun r hr => ?_⟩
      rcases List.mem_cons.1 hr with rfl | hr
      · exact Int.le_refl _
      · exact fr_trans (hp r (List.mem_cons_of_mem _ hr)) pm pp (h2 r hr) (by omega)
theorem frac_min (ps : List (Int × Int)) (h : ps ≠ []) (hp : ∀ p, p ∈ ps → 0 < p.2) : ∃ m, m ∈ ps ∧ ∀ p, p ∈ ps → m.1 * p.2 ≤ p.1 * m.2 := by
  obtain ⟨m, h1, h2⟩ := frac_max (ps.map fun p => (-p.1, p.2)) (by simpa using h) (fun p hp' => by
    obtain ⟨q, hq, rfl⟩ := List.mem_map.1 hp'; exact hp q hq)
  obtain ⟨q, hq, rfl⟩ := List.mem_map.1 h1
  refine ⟨q, hq, fun p hp' => ?_⟩
  have := h2 _ (List.mem_map.2 ⟨p, hp', rfl⟩)
  dsimp only at this
  rw [Int.neg_mul, Int.neg_mul] at this
  omega
/-- a fraction between all of one list and all of another one -/
theorem frac_between (ps qs : List (Int × Int)) (hp : ∀ p, p ∈ ps → 0 < p.2) (hq : ∀ q, q ∈ qs → 0 < q.2) (h : ∀ p, p ∈ ps → ∀ q, q ∈ qs → p.1 * q.2 ≤ q.1 * p.2) : ∃ S T : Int, 0 < T ∧ (∀ p, p ∈ ps → p.1 * T ≤ S * p.2) ∧ (∀ q, q ∈ qs → S * q.2 ≤ q.1 * T) := by
  by_cases h1 : ps = []
  · by_cases h2 : qs = []
    · subst h1; subst h2
      exact ⟨0, 1, by decide, fun p hp => (by cases hp), fun p hp => (by cases hp)⟩
    · obtain ⟨m, h3, h4⟩ := frac_min qs h2 hq
      subst h1
      exact ⟨m.1, m.2, hq m h3, fun p hp => (by cases hp), h4⟩
  · obtain ⟨m, h3, h4⟩ := frac_max ps h1 hp
    exact ⟨m.1, m.2, hp m h3, h4, fun q hq => h m h3 q hq⟩
/-- the line through (x, n / d), of slope S / (T * d), passes all gates -/
structure LineAt (l : List Gt) (x n d S T : Int) : Prop where
  up : ∀ j, j < l.length → S * ((gt l j).x - x) ≤ T * (d * (gt l j).hi - n)
  dn : ∀ i, i < l.length → T * (d * (gt l i).lo - n) ≤ S * ((gt l i).x - x)
theorem le_of_mulT {T a b : Int} (hT : 0 < T) (h : T * a ≤ T * b) : a ≤ b := Int.le_of_mul_le_mul_left h hT
theorem line_bound {l : List Gt} {x n d S T : Int} (hd : 0 < d) (hT : 0 < T) (ln : LineAt l x n d S T) {i j : Nat} (hi : i < l.length) (hj : j < l.length) {p : Int × Int} (hp : bP l x i j = some p) : n * p.2 ≤ p.1 * d := by
  have u1 := ln.up i hi
  have u2 := ln.up j hj
  have d1 := ln.dn j hj
  unfold bP at hp
  generalize (gt l i).x = X at *
  generalize (gt l i).hi = H at *
  generalize (gt l j).x = Y at *
  generalize (gt l j).hi = K at *
  generalize (gt l j).lo = M at *
  split at hp
  · cases hp
    rename_i hx
    subst hx
    rw [Int.sub_self, Int.mul_zero] at u1
    have : 0 ≤ d * H - n := le_of_mulT hT (by rw [Int.mul_zero]; exact u1)
    dsimp only
    rw [Int.mul_one, Int.mul_comm H d]
    omega
  · split at hp
    · cases hp
      rename_i hx
      dsimp only
      have a1 := Int.mul_le_mul_of_nonneg_left u1 (show 0 ≤ Y - x by omega)
      have a2 := Int.mul_le_mul_of_nonneg_left u2 (show 0 ≤ x - X by omega)
      have e1 : (Y - x) * (S * (X - x)) + (x - X) * (S * (Y - x)) = 0 := by grind
      have e2 : (Y - x) * (T * (d * H - n)) + (x - X) * (T * (d * K - n)) = T * ((H * (Y - x) + K * (x - X)) * d - n * (Y - X)) := by grind
      have : 0 ≤ (H * (Y - x) + K * (x - X)) * d - n * (Y - X) := le_of_mulT hT (by rw [Int.mul_zero]; omega)
      omega
    · split at hp
      · cases hp
        rename_i hx
        dsimp only
        have a1 := Int.mul_le_mul_of_nonneg_left u1 (show 0 ≤ x - Y by omega)
        have a2 := Int.mul_le_mul_of_nonneg_left d1 (show 0 ≤ x - X by omega)
        have e1 : (x - Y) * (S * (X - x)) = (x - X) * (S * (Y - x)) := by grind
        have e2 : (x - Y) * (T * (d * H - n)) - (x - X) * (T * (d * M - n)) = T * ((H * (X - Y) + (H - M) * (x - X)) * d - n * (X - Y)) := by grind
        have : 0 ≤ (H * (X - Y) + (H - M) * (x - X)) * d - n * (X - Y) := le_of_mulT hT (by rw [Int.mul_zero]; omega)
        omega
      · split at hp
        · cases hp
          rename_i hx
          dsimp only
          have a1 := Int.mul_le_mul_of_nonneg_left u1 (show 0 ≤ Y - x by omega)
          have a2 := Int.mul_le_mul_of_nonneg_left d1 (show 0 ≤ X - x by omega)
          have e1 : (Y - x) * (S * (X - x)) = (X - x) * (S * (Y - x)) := by grind
          have e2 : (Y - x) * (T * (d * H - n)) - (X - x) * (T * (d * M - n)) = T * ((H * (Y - X) + (H - M) * (X - x)) * d - n * (Y - X)) := by grind
          have : 0 ≤ (H * (Y - X) + (H - M) * (X - x)) * d - n * (Y - X) := le_of_mulT hT (by rw [Int.mul_zero]; omega)
          omega
        · cases hp
/-- a line that passes the corners passes all gates -/
theorem line_corners {l : List Gt} (o : Ok l) {x n d S T : Int} (hd : 0 < d) (hT : 0 < T) (hu : ∀ j, j ∈ Un l → S * ((gt l j).x - x) ≤ T * (d * (gt l j).hi - n)) (hn : ∀ i, i ∈ Ln l → T * (d * (gt l i).lo - n) ≤ S * ((gt l i).x - x)) : LineAt l x n d S T := by
  have hq : 0 ≤ T * d := Int.le_of_lt (Int.mul_pos hT hd)
  constructor
  · intro j hj
    obtain ⟨j', h1, h2⟩ := corner_min (x := Xs l) (y := His l) o.lt S (T * d) hq j hj
    have h3 := hu j' (Un_mem.2 h1)
    unfold Xs His at h2
    have e1 : T * (d * (gt l j').hi - n) - S * ((gt l j').x - x) = (T * d * (gt l j').hi - S * (gt l j').x) + (S * x - T * n) := by grind
    have e2 : T * (d * (gt l j).hi - n) - S * ((gt l j).x - x) = (T * d * (gt l j).hi - S * (gt l j).x) + (S * x - T * n) := by grind
    omega
  · intro i hi
    obtain ⟨i', h1, h2⟩ := corner_min (x := Xs l) (y := Los l) o.lt (-S) (T * d) hq i hi
    have h3 := hn i' (Ln_mem.2 h1)
    unfold Xs Los at h2
    have e1 : S * ((gt l i').x - x) - T * (d * (gt l i').lo - n) = (T * d * -(gt l i').lo - -S * (gt l i').x) - (S * x - T * n) := by grind
    have e2 : S * ((gt l i).x - x) - T * (d * (gt l i).lo - n) = (T * d * -(gt l i).lo - -S * (gt l i).x) - (S * x - T * n) := by grind
    omega
/-- a line of a slope that suits all gates -/
theorem line_of_fe {l : List Gt} (o : Ok l) {p q : Int} (hq : 0 < q) (h : ∀ i j, i < l.length → j < l.length → Fe l p q i j) (x : Int) : ∃ V, LineAt l x V q p 1 := by
  obtain ⟨m, h1, h2⟩ := frac_max ((List.range l.length).map fun i => (q * (gt l i).lo - p * (gt l i).x, (1 : Int))) (fun e => by have h1 := congrArg List.length e; rw [List.length_map, List.length_range, List.length_nil] at h1; have := o.pos; omega) (fun r hr => by
    obtain ⟨i, _, rfl⟩ := List.mem_map.1 hr; show (0 : Int) < 1; decide)
  obtain ⟨k, hk, rfl⟩ := List.mem_map.1 h1
  rw [List.mem_range] at hk
  refine ⟨q * (gt l k).lo - p * (gt l k).x + p * x, ⟨fun j hj => ?_, fun i hi => ?_⟩⟩
  · have := h k j hk hj
    unfold Fe at this
    rw [Int.mul_sub, Int.one_mul]
    omega
  · have := h2 _ (List.mem_map.2 ⟨i, List.mem_range.2 hi, rfl⟩)
    dsimp only at this
    rw [Int.one_mul, Int.mul_sub]
    omega
theorem hAll_mem {l : List Gt} {U L : List Nat} {x : Int} {p : Int × Int} : p ∈ hAll l U L x ↔ ∃ j, j ∈ U ∧ (p ∈ hO l x j ∨ (∃ k, k ∈ U ∧ p ∈ hUp l x j k) ∨ ∃ i, i ∈ L ∧ p ∈ hLp l x j i) := by
  unfold hAll hJ
  simp only [List.mem_flatMap, List.mem_append, or_assoc]
theorem corner_bound {l : List Gt} {U L : List Nat} {x : Int} (hU : ∀ k, k ∈ U → k < l.length) (hL : ∀ k, k ∈ L → k < l.length) {p : Int × Int} (h : p ∈ hAll l U L x) : ∃ i j, i < l.length ∧ j < l.length ∧ bP l x i j = some p := by
  obtain ⟨j, hj, h | ⟨k, hk, h⟩ | ⟨i, hi, h⟩⟩ := hAll_mem.1 h
  · unfold hO at h
    split at h
    · rw [List.mem_singleton.1 h]
      exact ⟨j, j, hU j hj, hU j hj, by unfold bP; rw [if_pos (by omega)]⟩
    · cases h
  · unfold hUp at h
    split at h
    · rw [List.mem_singleton.1 h]
      exact ⟨j, k, hU j hj, hU k hk, by unfold bP; rw [if_neg (by omega), if_pos ⟨by omega, by omega⟩]⟩
    · cases h
  · unfold hLp at h
    split at h
    · rw [List.mem_singleton.1 h]
      exact ⟨j, i, hU j hj, hL i hi, by unfold bP; rw [if_neg (by omega), if_neg (by omega), if_pos ⟨by omega, by omega⟩]⟩
    · split at h
      · rw [List.mem_singleton.1 h]
        exact ⟨j, i, hU j hj, hL i hi, by unfold bP; rw [if_neg (by omega), if_neg (by omega), if_neg (by omega), if_pos ⟨by omega, by omega⟩]⟩
      · cases h
theorem vOut_mem {l : List Gt} {x : Int} {p : Int × Int} : p ∈ vOut l x l.length ↔ ∃ i j, i < l.length ∧ j < l.length ∧ bP l x i j = some p := by
  unfold vOut vIn
  simp only [List.mem_flatMap, List.mem_range, Option.mem_toList]
  constructor
  · rintro ⟨i, hi, j, hj, h⟩; exact ⟨i, j, hi, hj, h⟩
  · rintro ⟨i, j, hi, hj, h⟩; exact ⟨i, hi, j, hj, h⟩
theorem bP_rp {l : List Gt} (o : Ok l) {x : Int} (hx : 0 ≤ x ∧ x ≤ 1073741824) {i j : Nat} (hi : i < l.length) (hj : j < l.length) {p : Int × Int} (hp : bP l x i j = some p) : RP p ∧ p.1 < 4611686018427387904 := by
  have ri := o.rng i hi
  have rj := o.rng j hj
  unfold bP at hp
  generalize (gt l i).x = X at *
  generalize (gt l i).hi = H at *
  generalize (gt l j).x = Y at *
  generalize (gt l j).hi = K at *
  generalize (gt l j).lo = M at *
  split at hp
  · cases hp; exact ⟨⟨by show (0 : Int) < 1; decide, by dsimp only; omega, by dsimp only; omega, by dsimp only; omega⟩, by dsimp only; omega⟩
  · split at hp
    · cases hp
      have p1 := mul_bd (a := H) (b := Y - x) (A := 1073741824) (B := 1073741824) (by omega) (by omega)
      have p2 := mul_bd (a := K) (b := x - X) (A := 1073741824) (B := 1073741824) (by omega) (by omega)
      exact ⟨⟨by dsimp only; omega, by dsimp only; omega, by dsimp only; omega, by dsimp only; omega⟩, by dsimp only; omega⟩
    · split at hp
      · cases hp
        have p1 := mul_bd (a := H) (b := X - Y) (A := 1073741824) (B := 1073741824) (by omega) (by omega)
        have p2 := mul_bd (a := H - M) (b := x - X) (A := 2147483648) (B := 1073741824) (by omega) (by omega)
        exact ⟨⟨by dsimp only; omega, by dsimp only; omega, by dsimp only; omega, by dsimp only; omega⟩, by dsimp only; omega⟩
      · split at hp
        · cases hp
          have p1 := mul_bd (a := H) (b := Y - X) (A := 1073741824) (B := 1073741824) (by omega) (by omega)
          have p2 := mul_bd (a := H - M) (b := X - x) (A := 2147483648) (B := 1073741824) (by omega) (by omega)
          exact ⟨⟨by dsimp only; omega, by dsimp only; omega, by dsimp only; omega, by dsimp only; omega⟩, by dsimp only; omega⟩
        · cases hp
end Go.Proofs.Ytlblocieleildaa
