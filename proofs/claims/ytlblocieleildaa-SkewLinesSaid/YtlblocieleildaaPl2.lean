/- The corners suffice; fractions. -/
import Derived.Test.YtlblocieleildaaPl1
set_option linter.unusedVariables false
namespace Go.Plain
section
variable {x y : Nat → Int}
/-- the least value of a linear form is reached at a corner -/
theorem corner_min {n : Nat} (hx : ∀ i j, i < j → j < n → x i < x j) (p q : Int) (hq : 0 ≤ q) (k : Nat) (hk : k < n) : ∃ a, a ∈ stack x y n ∧ q * y a - p * x a ≤ q * y k - p * x k := by
  obtain ⟨m, rfl⟩ : ∃ m, n = m + 1 := ⟨n - 1, by omega⟩
  obtain ⟨h1, r, h2⟩ := stack_good (x := x) (y := y) hx m (by omega)
  rcases good_cover h2 h1 k (by omega) with h | ⟨a, b, ha, hb, l1, l2, h3⟩
  · exact ⟨k, h, Int.le_refl _⟩
  · have hbm : b < m + 1 := by
      rw [h2] at hb
      rcases List.mem_cons.1 hb with rfl | hb'
      · omega
      · have := good_lt h2 h1 b hb'; omega
    have k1 := h3 k hk
    have xak := hx a k l1 hk
    have xkb := hx k b l2 hbm
    by_cases c1 : q * y a - p * x a ≤ q * y k - p * x k
    · exact ⟨a, ha, c1⟩
    by_cases c2 : q * y b - p * x b ≤ q * y k - p * x k
    · exact ⟨b, hb, c2⟩
    exfalso
    have e1 : (x b - x k) * ((q * y k - p * x k) - (q * y a - p * x a)) + (x k - x a) * ((q * y k - p * x k) - (q * y b - p * x b)) = q * cr x y a b k := by unfold cr; grind
    have e2 : 0 ≤ q * cr x y a b k := Int.mul_nonneg hq k1
    have e3 := Int.mul_neg_of_pos_of_neg (show 0 < x b - x k by omega) (show (q * y k - p * x k) - (q * y a - p * x a) < 0 by omega)
    have e4 := Int.mul_neg_of_pos_of_neg (show 0 < x k - x a by omega) (show (q * y k - p * x k) - (q * y b - p * x b) < 0 by omega)
    omega
theorem stack_first {n : Nat} (hx : ∀ i j, i < j → j < n → x i < x j) (hn : 0 < n) : 0 ∈ stack x y n := (mem_stack hx hn 0).2 ⟨hn, fun i j h _ _ => absurd h (Nat.not_lt_zero _)⟩
theorem stack_last {n : Nat} (hx : ∀ i j, i < j → j < n → x i < x j) (hn : 0 < n) : n - 1 ∈ stack x y n := (mem_stack hx hn _).2 ⟨by omega, fun i j _ h1 h2 => by omega⟩
end
/-! ### Fractions -/
theorem le_of_mul {a b c : Int} (hc : 0 < c) (h : c * a ≤ c * b) : a ≤ b := Int.le_of_mul_le_mul_left h hc
theorem fr_trans {n d m e r k : Int} (hd : 0 < d) (he : 0 < e) (hk : 0 < k) (h1 : n * e ≤ m * d) (h2 : m * k ≤ r * e) : n * k ≤ r * d := by
  apply le_of_mul he
  have a1 := Int.mul_le_mul_of_nonneg_left h1 (Int.le_of_lt hk)
  have a2 := Int.mul_le_mul_of_nonneg_left h2 (Int.le_of_lt hd)
  have b1 : e * (n * k) = k * (n * e) := by grind
  have b2 : k * (m * d) = d * (m * k) := by grind
  have b3 : e * (r * d) = d * (r * e) := by grind
  omega
theorem quo_gcd {n d : Int} (hd : 0 < d) : ∃ g : Int, 0 < g ∧ n = g * (n.tdiv (Int.gcd n d)) ∧ d = g * (d.tdiv (Int.gcd n d)) ∧ 0 < d.tdiv (Int.gcd n d) ∧ d.tdiv (Int.gcd n d) ≤ d ∧ (n.tdiv (Int.gcd n d)).natAbs ≤ n.natAbs ∧ Int.gcd (n.tdiv (Int.gcd n d)) (d.tdiv (Int.gcd n d)) = 1 := by
  have hg : 0 < Int.gcd n d := by
    rcases Nat.eq_zero_or_pos (Int.gcd n d) with h | h
    · rw [Int.gcd_eq_zero_iff] at h; omega
    · exact h
  have h1 : (Int.gcd n d : Int) ∣ n := Int.gcd_dvd_left ..
  have h2 : (Int.gcd n d : Int) ∣ d := Int.gcd_dvd_right ..
  have e1 := (Int.mul_tdiv_cancel' h1).symm
  have e2 := (Int.mul_tdiv_cancel' h2).symm
  generalize hG : (Int.gcd n d : Int) = G at *
  have hG0 : 0 < G := by omega
  have hd0 : 0 < d.tdiv G := by
    apply Int.not_le.1
    intro h
    have := Int.mul_nonpos_of_nonneg_of_nonpos (Int.le_of_lt hG0) h
    omega
  refine ⟨G, hG0, e1, e2, hd0, ?_, ?_, ?_⟩
  · have := Int.mul_le_mul_of_nonneg_right (show 1 ≤ G by omega) (Int.le_of_lt hd0)
    omega
  · rw [Int.natAbs_tdiv]; exact Nat.div_le_self _ _
  · have e3 : Int.gcd (G * n.tdiv G) (G * d.tdiv G) = G.natAbs * Int.gcd (n.tdiv G) (d.tdiv G) := Int.gcd_mul_left ..
    rw [← e1, ← e2] at e3
    have e4 : Int.gcd n d = G.natAbs := by omega
    rw [e4] at e3
    have hGn : 0 < G.natAbs := by omega
    have : G.natAbs * 1 = G.natAbs * Int.gcd (n.tdiv G) (d.tdiv G) := by rw [Nat.mul_one]; exact e3
    exact (Nat.eq_of_mul_eq_mul_left hGn this).symm
theorem cop_dvd {k m n : Int} (h : Int.gcd k m = 1) (hd : k ∣ m * n) : k ∣ n := by
  rw [← Int.natAbs_dvd_natAbs] at hd ⊢
  rw [Int.natAbs_mul] at hd
  exact Nat.Coprime.dvd_of_dvd_mul_left h hd
/-- lowest terms are unique -/
theorem fr_unique {n d m e : Int} (hd : 0 < d) (he : 0 < e) (h1 : Int.gcd n d = 1) (h2 : Int.gcd m e = 1) (h : n * e = m * d) : n = m ∧ d = e := by
  have dvd1 : d ∣ e := by
    have : d ∣ n * e := ⟨m, by rw [h, Int.mul_comm]⟩
    exact cop_dvd (by rw [Int.gcd_comm]; exact h1) this
  have dvd2 : e ∣ d := by
    have : e ∣ m * d := ⟨n, by rw [← h, Int.mul_comm]⟩
    exact cop_dvd (by rw [Int.gcd_comm]; exact h2) this
  have hde : d = e := Int.le_antisymm (Int.le_of_dvd he dvd1) (Int.le_of_dvd hd dvd2)
  subst hde
  exact ⟨Int.eq_of_mul_eq_mul_right (by omega) h, rfl⟩
end Go.Plain
