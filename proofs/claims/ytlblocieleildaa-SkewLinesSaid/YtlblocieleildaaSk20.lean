/- Comparing rational numbers, and the least and the greatest of some. -/
import Derived.Test.YtlblocieleildaaSk17
import Derived.Test.YtlblocieleildaaPl2
set_option linter.unusedSimpArgs false
set_option linter.unusedVariables false
namespace Go.Proofs.Ytlblocieleildaa
open Go.Am Go.Plain

theorem flo_eq {n d : Int} (hn : -4611686018427387904 ≤ n ∧ n ≤ 4611686018427387904) (hd : 0 < d ∧ d ≤ 1073741824) : n = d * (flo n d).1 + (flo n d).2 ∧ 0 ≤ (flo n d).2 ∧ (flo n d).2 < d := by
  have e := Int.mul_tdiv_add_tmod n d
  have h1 : (n.tmod d).natAbs < d.natAbs := by rw [Int.natAbs_tmod]; exact Nat.mod_lt _ (by omega)
  have h2 : (n.tdiv d).natAbs ≤ n.natAbs := by rw [Int.natAbs_tdiv]; exact Nat.div_le_self _ _
  unfold flo
  split
  · dsimp only
    rw [w64_in (n.tdiv d) (by omega), w64_in (n.tdiv d - 1) (by omega), w64_in (n.tmod d + d) (by omega), Int.mul_sub, Int.mul_one]
    omega
  · dsimp only
    rw [w64_in (n.tdiv d) (by omega)]
    omega
theorem lessZ_iff {n d m e : Int} (hn : -4611686018427387904 ≤ n ∧ n ≤ 4611686018427387904) (hd : 0 < d ∧ d ≤ 1073741824) (hm : -4611686018427387904 ≤ m ∧ m ≤ 4611686018427387904) (he : 0 < e ∧ e ≤ 1073741824) : lessZ n d m e = true ↔ n * e < m * d := by
  obtain ⟨k1, k2, k3⟩ := flo_eq hn hd
  obtain ⟨j1, j2, j3⟩ := flo_eq hm he
  unfold lessZ
  generalize (flo n d).1 = p at *
  generalize (flo n d).2 = r at *
  generalize (flo m e).1 = q at *
  generalize (flo m e).2 = s at *
  have b1 := mul_bd (a := r) (b := e) (A := 1073741824) (B := 1073741824) (by omega) (by omega)
  have b2 := mul_bd (a := s) (b := d) (A := 1073741824) (B := 1073741824) (by omega) (by omega)
  have a1 : n * e = (d * e) * p + r * e := by rw [k1]; grind
  have a2 : m * d = (d * e) * q + s * d := by rw [j1]; grind
  have c1 : 0 ≤ r * e := Int.mul_nonneg k2 (by omega)
  have c2 : 0 ≤ s * d := Int.mul_nonneg j2 (by omega)
  have c3 : r * e < d * e := Int.mul_lt_mul_of_pos_right k3 (by omega)
  have c4 : s * d < d * e := by rw [Int.mul_comm d e]; exact Int.mul_lt_mul_of_pos_right j3 (by omega)
  have c5 : 0 < d * e := Int.mul_pos (by omega) (by omega)
  split
  · rename_i hpq
    subst hpq
    rw [w64_in (r * e) (by omega), w64_in (s * d) (by omega), decide_eq_true_eq, a1, a2]
    omega
  · rename_i hpq
    rw [decide_eq_true_eq, a1, a2]
    by_cases hlt : p < q
    · have := Int.mul_le_mul_of_nonneg_left (show p + 1 ≤ q by omega) (Int.le_of_lt c5)
      rw [Int.mul_add, Int.mul_one] at this
      omega
    · have := Int.mul_le_mul_of_nonneg_left (show q + 1 ≤ p by omega) (Int.le_of_lt c5)
      rw [Int.mul_add, Int.mul_one] at this
      omega
/-- the bounds of what is divided -/
structure RP (p : Int × Int) : Prop where
  d0 : 0 < p.2
  d1 : p.2 ≤ 1073741824
  n0 : -4611686018427387904 ≤ p.1
  n1 : p.1 ≤ 4611686018427387904
/-- a rational number in lowest terms, not too great -/
structure Low (b : Bd) : Prop where
  s : b.s = true
  d0 : 0 < b.d
  d1 : b.d ≤ 1073741824
  n0 : -4611686018427387904 ≤ b.n
  n1 : b.n ≤ 4611686018427387904
  g : Int.gcd b.n b.d = 1
structure IsMin (ps : List (Int × Int)) (b : Bd) : Prop where
  low : Low b
  att : ∃ p, p ∈ ps ∧ b.n * p.2 = p.1 * b.d
  le : ∀ p, p ∈ ps → b.n * p.2 ≤ p.1 * b.d
structure IsMax (ps : List (Int × Int)) (b : Bd) : Prop where
  low : Low b
  att : ∃ p, p ∈ ps ∧ b.n * p.2 = p.1 * b.d
  ge : ∀ p, p ∈ ps → p.1 * b.d ≤ b.n * p.2
def quoB (p : Int × Int) : Bd := ⟨true, quoN p.1 p.2, quoD p.1 p.2⟩
theorem quoB_low {p : Int × Int} (r : RP p) : Low (quoB p) ∧ ∃ g, 0 < g ∧ p.1 = g * (quoB p).n ∧ p.2 = g * (quoB p).d := by
  obtain ⟨g, h0, h1, h2, h3, h4, h5, h6⟩ := quo_gcd (n := p.1) (d := p.2) r.d0
  have := r.n0
  have := r.n1
  have := r.d1
  refine ⟨⟨rfl, h3, ?_, ?_, ?_, h6⟩, g, h0, h1, h2⟩
  · show p.2.tdiv _ ≤ _; omega
  · show _ ≤ p.1.tdiv _; omega
  · show p.1.tdiv _ ≤ _; omega
theorem quoB_val {p : Int × Int} (r : RP p) : (quoB p).n * p.2 = p.1 * (quoB p).d := by
  obtain ⟨_, g, h0, h1, h2⟩ := quoB_low r
  generalize (quoB p).n = N at *
  generalize (quoB p).d = D at *
  rw [h1, h2]; grind
theorem quo_min {p : Int × Int} (r : RP p) : IsMin [p] (quoB p) :=
  ⟨(quoB_low r).1, ⟨p, by simp, quoB_val r⟩, fun q hq => by rw [List.mem_singleton.1 hq]; exact Int.le_of_eq (quoB_val r)⟩
theorem quo_max {p : Int × Int} (r : RP p) : IsMax [p] (quoB p) :=
  ⟨(quoB_low r).1, ⟨p, by simp, quoB_val r⟩, fun q hq => by rw [List.mem_singleton.1 hq]; exact Int.le_of_eq (quoB_val r).symm⟩
theorem less_low {a b : Bd} (ha : Low a) (hb : Low b) : lessZ a.n a.d b.n b.d = true ↔ a.n * b.d < b.n * a.d := lessZ_iff ⟨ha.n0, ha.n1⟩ ⟨ha.d0, ha.d1⟩ ⟨hb.n0, hb.n1⟩ ⟨hb.d0, hb.d1⟩
theorem min_step {qs : List (Int × Int)} {b : Bd} {p : Int × Int} (m : IsMin qs b) (r : RP p) (hq : ∀ q, q ∈ qs → RP q) : IsMin (qs ++ [p]) (atMostZ b p.1 p.2) := by
  obtain ⟨lq, g, h0, h1, h2⟩ := quoB_low r
  have lb := m.low
  unfold atMostZ
  have hl := less_low lq lb
  split
  · rename_i hc
    have hlt : (quoB p).n * b.d < b.n * (quoB p).d := by
      rcases hc with hc | hc
      · rw [lb.s] at hc; cases hc
      · exact hl.1 hc
    refine ⟨lq, ⟨p, by simp, quoB_val r⟩, fun q hq' => ?_⟩
    rcases List.mem_append.1 hq' with h | h
    · exact fr_trans lq.d0 lb.d0 (hq q h).d0 (Int.le_of_lt hlt) (m.le q h)
    · rw [List.mem_singleton.1 h]; exact Int.le_of_eq (quoB_val r)
  · rename_i hc
    have hge : b.n * (quoB p).d ≤ (quoB p).n * b.d := Int.not_lt.1 fun h => hc (.inr (hl.2 h))
    obtain ⟨p0, h3, h4⟩ := m.att
    refine ⟨lb, ⟨p0, List.mem_append_left _ h3, h4⟩, fun q hq' => ?_⟩
    rcases List.mem_append.1 hq' with h | h
    · exact m.le q h
    · rw [List.mem_singleton.1 h, h1, h2]
      have := Int.mul_le_mul_of_nonneg_left hge (Int.le_of_lt h0)
      have e1 : b.n * (g * (quoB p).d) = g * (b.n * (quoB p).d) := by grind
      have e2 : g * (quoB p).n * b.d = g * ((quoB p).n * b.d) := by grind
      omega
theorem max_step {qs : List (Int × Int)} {b : Bd} {p : Int × Int} (m : IsMax qs b) (r : RP p) (hq : ∀ q, q ∈ qs → RP q) : IsMax (qs ++ [p]) (atLeastZ b p.1 p.2) := by
  obtain ⟨lq, g, h0, h1, h2⟩ := quoB_low r
  have lb := m.low
  unfold atLeastZ
  have hl := less_low lb lq
  split
  · rename_i hc
    have hlt : b.n * (quoB p).d < (quoB p).n * b.d := by
      rcases hc with hc | hc
      · rw [lb.s] at hc; cases hc
      · exact hl.1 hc
    refine ⟨lq, ⟨p, by simp, quoB_val r⟩, fun q hq' => ?_⟩
    rcases List.mem_append.1 hq' with h | h
    · exact fr_trans (hq q h).d0 lb.d0 lq.d0 (m.ge q h) (Int.le_of_lt hlt)
    · rw [List.mem_singleton.1 h]; exact Int.le_of_eq (quoB_val r).symm
  · rename_i hc
    have hge : (quoB p).n * b.d ≤ b.n * (quoB p).d := Int.not_lt.1 fun h => hc (.inr (hl.2 h))
    obtain ⟨p0, h3, h4⟩ := m.att
    refine ⟨lb, ⟨p0, List.mem_append_left _ h3, h4⟩, fun q hq' => ?_⟩
    rcases List.mem_append.1 hq' with h | h
    · exact m.ge q h
    · rw [List.mem_singleton.1 h, h1, h2]
      have := Int.mul_le_mul_of_nonneg_left hge (Int.le_of_lt h0)
      have e1 : b.n * (g * (quoB p).d) = g * (b.n * (quoB p).d) := by grind
      have e2 : g * (quoB p).n * b.d = g * ((quoB p).n * b.d) := by grind
      omega
theorem min_fold : ∀ (ps qs : List (Int × Int)) (b : Bd), IsMin qs b → (∀ q, q ∈ qs → RP q) → (∀ p, p ∈ ps → RP p) → IsMin (qs ++ ps) (ps.foldl (fun b p => atMostZ b p.1 p.2) b)
  | [], qs, b, m, _, _ => by rw [List.append_nil]; exact m
  | p :: ps, qs, b, m, hq, hp => by
    have := min_fold ps (qs ++ [p]) _ (min_step m (hp p (by simp)) hq) (fun q h => by
      rcases List.mem_append.1 h with h | h
      · exact hq q h
      · rw [List.mem_singleton.1 h]; exact hp p (by simp)) (fun q h => hp q (List.mem_cons_of_mem _ h))
    rw [List.append_assoc] at this
    exact this
theorem max_fold : ∀ (ps qs : List (Int × Int)) (b : Bd), IsMax qs b → (∀ q, q ∈ qs → RP q) → (∀ p, p ∈ ps → RP p) → IsMax (qs ++ ps) (ps.foldl (fun b p => atLeastZ b p.1 p.2) b)
  | [], qs, b, m, _, _ => by rw [List.append_nil]; exact m
  | p :: ps, qs, b, m, hq, hp => by
    have := max_fold ps (qs ++ [p]) _ (max_step m (hp p (by simp)) hq) (fun q h => by
      rcases List.mem_append.1 h with h | h
      · exact hq q h
      · rw [List.mem_singleton.1 h]; exact hp p (by simp)) (fun q h => hp q (List.mem_cons_of_mem _ h))
    rw [List.append_assoc] at this
    exact this
/-- from a first bound that all are better than -/
theorem min_from {b0 : Bd} (hb : b0.s = false ∨ Low b0) : ∀ (ps : List (Int × Int)), ps ≠ [] → (∀ p, p ∈ ps → RP p) → (∀ p, p ∈ ps → b0.s = false ∨ p.1 * b0.d < b0.n * p.2) → IsMin ps (ps.foldl (fun b p => atMostZ b p.1 p.2) b0)
  | [], h, _, _ => absurd rfl h
  | p :: ps, _, hp, hlt => by
    have r := hp p (by simp)
    have e : atMostZ b0 p.1 p.2 = quoB p := by
      unfold atMostZ
      rw [if_pos]; · rfl
      rcases hlt p (by simp) with h | h
      · exact .inl h
      · rcases hb with h' | h'
        · exact .inl h'
        · right
          obtain ⟨lq, g, h0, h1, h2⟩ := quoB_low r
          refine (less_low lq h').2 ?_
          rw [h1, h2] at h
          apply Int.not_le.1
          intro hle
          have := Int.mul_le_mul_of_nonneg_left hle (Int.le_of_lt h0)
          have e1 : g * (quoB p).n * b0.d = g * ((quoB p).n * b0.d) := by grind
          have e2 : b0.n * (g * (quoB p).d) = g * (b0.n * (quoB p).d) := by grind
          omega
    have := min_fold ps [p] (quoB p) (quo_min r) (fun q h => by rw [List.mem_singleton.1 h]; exact r) (fun q h => hp q (List.mem_cons_of_mem _ h))
    rw [List.foldl_cons, e]
    exact this
theorem max_from {b0 : Bd} (hb : b0.s = false ∨ Low b0) : ∀ (ps : List (Int × Int)), ps ≠ [] → (∀ p, p ∈ ps → RP p) → (∀ p, p ∈ ps → b0.s = false ∨ b0.n * p.2 < p.1 * b0.d) → IsMax ps (ps.foldl (fun b p => atLeastZ b p.1 p.2) b0)
  | [], h, _, _ => absurd rfl h
  | p :: ps, _, hp, hlt => by
    have r := hp p (by simp)
    have e : atLeastZ b0 p.1 p.2 = quoB p := by
      unfold atLeastZ
      rw [if_pos]; · rfl
      rcases hlt p (by simp) with h | h
      · exact .inl h
      · rcases hb with h' | h'
        · exact .inl h'
        · right
          obtain ⟨lq, g, h0, h1, h2⟩ := quoB_low r
          refine (less_low h' lq).2 ?_
          rw [h1, h2] at h
          apply Int.not_le.1
          intro hle
          have := Int.mul_le_mul_of_nonneg_left hle (Int.le_of_lt h0)
          have e1 : g * (quoB p).n * b0.d = g * ((quoB p).n * b0.d) := by grind
          have e2 : b0.n * (g * (quoB p).d) = g * (b0.n * (quoB p).d) := by grind
          omega
    have := max_fold ps [p] (quoB p) (quo_max r) (fun q h => by rw [List.mem_singleton.1 h]; exact r) (fun q h => hp q (List.mem_cons_of_mem _ h))
    rw [List.foldl_cons, e]
    exact this
/-- two numbers in lowest terms, neither less than the other -/
theorem low_eq' {a b : Bd} (ha : Low a) (hb : Low b) (h1 : a.n * b.d ≤ b.n * a.d) (h2 : b.n * a.d ≤ a.n * b.d) : a = b := by
  obtain ⟨e1, e2⟩ := fr_unique ha.d0 hb.d0 ha.g hb.g (Int.le_antisymm h1 h2)
  obtain ⟨s, n, d⟩ := a
  obtain ⟨s', n', d'⟩ := b
  dsimp only at e1 e2
  have hs := ha.s
  have hs' := hb.s
  dsimp only at hs hs'
  subst e1; subst e2; subst hs; subst hs'
  rfl
end Go.Proofs.Ytlblocieleildaa
