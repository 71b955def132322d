/- The stack of a hull holds exactly the corners. -/
set_option linter.unusedVariables false
namespace Go.Plain
theorem nonpos_of {u Z R : Int} (h : u * Z = R) (hu : u < 0) (hR : 0 ≤ R) : Z ≤ 0 := by
  apply Int.not_lt.1; intro hz; have := Int.mul_neg_of_neg_of_pos hu hz; omega
theorem nonneg_of {u Z R : Int} (h : u * Z = R) (hu : 0 < u) (hR : 0 ≤ R) : 0 ≤ Z := by
  apply Int.not_lt.1; intro hz; have := Int.mul_neg_of_pos_of_neg hu hz; omega
theorem pos_of {u Z R : Int} (h : u * Z = R) (hu : 0 < u) (hR : 0 < R) : 0 < Z := by
  apply Int.not_le.1; intro hz; have := Int.mul_nonpos_of_nonneg_of_nonpos (Int.le_of_lt hu) hz; omega
theorem neg_of {u Z R : Int} (h : u * Z = R) (hu : u < 0) (hR : 0 < R) : Z < 0 := by
  apply Int.not_le.1; intro hz; have := Int.mul_nonpos_of_nonpos_of_nonneg (Int.le_of_lt hu) hz; omega

section
variable (x y : Nat → Int)
def cr (i j k : Nat) : Int := (x j - x i) * (y k - y i) - (x k - x i) * (y j - y i)
/-- the stack, top first, as long as it does not bend at m -/
def pop (m : Nat) : List Nat → List Nat
  | [] => []
  | [b] => [b]
  | b :: a :: r => if 0 < cr x y a b m then b :: a :: r else pop m (a :: r)
/-- the stack after m points -/
def stack : Nat → List Nat
  | 0 => []
  | m + 1 => m :: pop x y m (stack m)
def Corner (n k : Nat) : Prop := ∀ i j, i < k → k < j → j < n → 0 < cr x y i k j
def Good (m : Nat) : List Nat → Prop
  | [] => False
  | [b] => b = 0
  | b :: a :: r => a < b ∧ (∀ i, i < m → 0 ≤ cr x y a b i) ∧ Good m (a :: r) ∧ (∀ a' r', r = a' :: r' → 0 < cr x y a' a b)
end
section
variable {x y : Nat → Int}
theorem cr_rot (i j k : Nat) : cr x y i j k = cr x y j k i := by unfold cr; grind
theorem cr_swap (i j k : Nat) : cr x y i j k = - cr x y i k j := by unfold cr; grind
theorem cr_self (i j : Nat) : cr x y i j i = 0 := by unfold cr; grind
theorem cr_self' (i j : Nat) : cr x y i j j = 0 := by unfold cr; grind
/-- four points: b, c, d seen from a -/
theorem cr4 (a b c d : Nat) : (x c - x a) * cr x y a b d = (x b - x a) * cr x y a c d + (x d - x a) * cr x y a b c := by unfold cr; grind
theorem good_lt {m : Nat} : ∀ {s : List Nat} {b : Nat} {r : List Nat}, s = b :: r → Good x y m s → ∀ k, k ∈ r → k < b
  | [], _, _, e, _, _, _ => by cases e
  | [_], _, _, e, _, k, hk => by cases e; cases hk
  | b :: a :: r, _, _, e, h, k, hk => by
    cases e
    rcases List.mem_cons.1 hk with rfl | hk'
    · exact h.1
    · have := good_lt rfl h.2.2.1 k hk'
      have := h.1
      omega
theorem good_sorted {m : Nat} : ∀ {s : List Nat}, Good x y m s → s.Pairwise (fun a b => b < a)
  | [], h => h.elim
  | [_], _ => by simp
  | b :: a :: r, h => List.pairwise_cons.2 ⟨fun k hk => good_lt rfl h k hk, good_sorted h.2.2.1⟩
/-- with one more point above the line of the top pair -/
theorem good_more {m : Nat} (hx : ∀ i j, i < j → j ≤ m → x i < x j) : ∀ {s : List Nat} {b : Nat} {r : List Nat}, s = b :: r → b < m → Good x y m s → (∀ a r', r = a :: r' → 0 ≤ cr x y a b m) → Good x y (m + 1) s
  | [], _, _, e, _, _, _ => by cases e
  | [_], _, _, e, _, h, _ => h
  | b :: a :: r, _, _, e, hbm, h, ha => by
    cases e
    obtain ⟨h1, h2, h3, h4⟩ := h
    refine ⟨h1, ?_, ?_, h4⟩
    · intro i hi
      by_cases him : i = m
      · subst him; exact ha _ _ rfl
      · exact h2 i (by omega)
    · refine good_more hx rfl (by omega) h3 ?_
      rintro a' r' rfl
      have k1 := h4 _ _ rfl
      have k2 := ha _ _ rfl
      have l1 : a' < a := h3.1
      -- seen from a': a, b, m
      have e1 := cr4 (x := x) (y := y) a b a' m
      have c1 : cr x y a a' m = - cr x y a' a m := by unfold cr; grind
      have c2 : cr x y a b a' = cr x y a' a b := by unfold cr; grind
      have xa : x a' < x a := hx _ _ l1 (by omega)
      have xb : x a < x b := hx _ _ h1 (by omega)
      have xm : x a < x m := hx _ _ (by omega) (by omega)
      have p1 : 0 ≤ (x a - x a') * cr x y a b m := Int.mul_nonneg (by omega) k2
      have p2 : 0 ≤ (x m - x a) * cr x y a' a b := Int.mul_nonneg (by omega) (by omega)
      have e2 : (x b - x a) * cr x y a' a m = (x a - x a') * cr x y a b m + (x m - x a) * cr x y a' a b := by
        rw [c1, c2] at e1
        have : (x a' - x a) * cr x y a b m = -((x a - x a') * cr x y a b m) := by grind
        have : (x b - x a) * -cr x y a' a m = - ((x b - x a) * cr x y a' a m) := by grind
        omega
      exact nonneg_of e2 (by omega) (by omega)
theorem pop_good {m : Nat} (hx : ∀ i j, i < j → j ≤ m → x i < x j) : ∀ {s : List Nat} {t : Nat} {r : List Nat}, s = t :: r → Good x y m s → t < m → (∀ i, t < i → i < m → 0 ≤ cr x y t m i) →
    ∃ t' r', pop x y m s = t' :: r' ∧ Good x y m (t' :: r') ∧ t' < m ∧ (∀ i, t' < i → i < m → 0 ≤ cr x y t' m i) ∧ (∀ a r'', r' = a :: r'' → 0 < cr x y a t' m)
  | [], _, _, e, _, _, _ => by cases e
  | [b], _, _, e, h, ht, hi => by
    cases e
    exact ⟨_, _, rfl, h, ht, hi, fun a r'' e => by cases e⟩
  | b :: a :: r, _, _, e, h, ht, hi => by
    cases e
    by_cases hc : 0 < cr x y a b m
    · exact ⟨b, a :: r, by rw [pop, if_pos hc], h, ht, hi, fun a' r'' e => by cases e; exact hc⟩
    · obtain ⟨h1, h2, h3, h4⟩ := h
      have xab : x a < x b := hx _ _ h1 (by omega)
      have xbm : x b < x m := hx _ _ ht (by omega)
      have hbm : 0 ≤ cr x y a m b := by rw [cr_swap]; omega
      have := pop_good hx (s := a :: r) rfl h3 (by omega) (fun i hai him => by
        by_cases hib : i = b
        · subst hib; exact hbm
        · have xai : x a < x i := hx _ _ hai (by omega)
          by_cases hlt : i < b
          · -- above the line a b, which is above a m: seen from a: m, b, i
            have e1 := cr4 (x := x) (y := y) a m b i
            have p1 : 0 ≤ (x m - x a) * cr x y a b i := Int.mul_nonneg (by omega) (h2 i (by omega))
            have p2 : 0 ≤ (x i - x a) * cr x y a m b := Int.mul_nonneg (by omega) hbm
            exact nonneg_of e1 (by omega) (by omega)
          · -- seen from m
            have xbi : x b < x i := hx _ _ (by omega) (by omega)
            have xim : x i < x m := hx _ _ him (by omega)
            have k1 := hi i (by omega) him
            have e1 := cr4 (x := x) (y := y) m i b a
            have c1 : cr x y m i a = cr x y a m i := by unfold cr; grind
            have c2 : cr x y m b a = cr x y a m b := by unfold cr; grind
            have c3 : cr x y m i b = cr x y b m i := by unfold cr; grind
            rw [c1, c2, c3] at e1
            have p1 : 0 ≤ (x m - x i) * cr x y a m b := Int.mul_nonneg (by omega) hbm
            have p2 : 0 ≤ (x m - x a) * cr x y b m i := Int.mul_nonneg (by omega) k1
            have e2 : (x m - x b) * cr x y a m i = (x m - x i) * cr x y a m b + (x m - x a) * cr x y b m i := by grind
            exact nonneg_of e2 (by omega) (by omega))
      obtain ⟨t', r', q1, q2⟩ := this
      exact ⟨t', r', by rw [pop, if_neg hc]; exact q1, q2⟩
theorem stack_good {n : Nat} (hx : ∀ i j, i < j → j < n → x i < x j) : ∀ m, m < n → Good x y (m + 1) (stack x y (m + 1)) ∧ ∃ r, stack x y (m + 1) = m :: r
  | 0, _ => ⟨rfl, [], rfl⟩
  | m + 1, hm => by
    obtain ⟨h1, r, h2⟩ := stack_good hx m (by omega)
    have hx' : ∀ i j, i < j → j ≤ m + 1 → x i < x j := fun i j a b => hx i j a (by omega)
    obtain ⟨t, r', q1, q2, q3, q4, q5⟩ := pop_good hx' h2 h1 (by omega) (fun i a b => by omega)
    have q6 := good_more hx' rfl q3 q2 (fun a r'' e => Int.le_of_lt (q5 a r'' e))
    have e1 : stack x y (m + 1 + 1) = (m + 1) :: pop x y (m + 1) (stack x y (m + 1)) := rfl
    rw [e1, q1]
    refine ⟨⟨q3, ?_, q6, ?_⟩, _, rfl⟩
    · intro i hi
      by_cases h3 : i = m + 1
      · subst h3; rw [cr_self']; omega
      by_cases h4 : i = t
      · subst h4; rw [cr_self]; omega
      by_cases h5 : t < i
      · exact q4 i h5 (by omega)
      · cases hr : r' with
        | nil => subst hr; have : t = 0 := q2; omega
        | cons a r'' =>
          subst hr
          obtain ⟨g1, g2, _⟩ := q2
          have k1 := q5 a r'' rfl
          have k2 := g2 i (by omega)
          have xat : x a < x t := hx' _ _ g1 (by omega)
          have xit : x i < x t := hx' _ _ (by omega) (by omega)
          have xtm : x t < x (m + 1) := hx' _ _ (by omega) (by omega)
          -- seen from t: m + 1, a, i
          have e2 := cr4 (x := x) (y := y) t (m + 1) a i
          have c1 : cr x y t a i = - cr x y a t i := by unfold cr; grind
          have c2 : cr x y t (m + 1) a = cr x y a t (m + 1) := by unfold cr; grind
          rw [c1, c2] at e2
          have p1 : 0 ≤ (x (m + 1) - x t) * cr x y a t i := Int.mul_nonneg (by omega) k2
          have p2 : 0 ≤ (x t - x i) * cr x y a t (m + 1) := Int.mul_nonneg (by omega) (by omega)
          have e3 : (x t - x a) * cr x y t (m + 1) i = (x (m + 1) - x t) * cr x y a t i + (x t - x i) * cr x y a t (m + 1) := by grind
          exact nonneg_of e3 (by omega) (by omega)
    · intro a' r'' e; exact q5 a' r'' e
/-- every point lies between two neighbours of the stack, or on its top -/
theorem good_cover {m : Nat} : ∀ {s : List Nat} {t : Nat} {r : List Nat}, s = t :: r → Good x y m s → ∀ k, k ≤ t → k ∈ s ∨ ∃ a b, a ∈ s ∧ b ∈ s ∧ a < k ∧ k < b ∧ ∀ i, i < m → 0 ≤ cr x y a b i
  | [], _, _, e, _, _, _ => by cases e
  | [b], _, _, e, h, k, hk => by
    cases e; have : b = 0 := h; left; simp; omega
  | b :: a :: r, _, _, e, h, k, hk => by
    cases e
    obtain ⟨h1, h2, h3, h4⟩ := h
    by_cases hb : k = b
    · left; simp [hb]
    by_cases ha : k ≤ a
    · rcases good_cover rfl h3 k ha with h | ⟨p, q, hp, hq, h⟩
      · left; exact List.mem_cons_of_mem _ h
      · right; exact ⟨p, q, List.mem_cons_of_mem _ hp, List.mem_cons_of_mem _ hq, h⟩
    · right; exact ⟨a, b, by simp, by simp, by omega, by omega, h2⟩
/-- a corner of the stack: its neighbours -/
theorem good_mem {m : Nat} : ∀ {s : List Nat} {t : Nat} {r : List Nat}, s = t :: r → Good x y m s → ∀ k, k ∈ s → k = t ∨ k = 0 ∨ ∃ a c, a < k ∧ k < c ∧ c ≤ t ∧ (∀ i, i < m → 0 ≤ cr x y a k i) ∧ (∀ i, i < m → 0 ≤ cr x y k c i) ∧ 0 < cr x y a k c
  | [], _, _, e, _, _, _ => by cases e
  | [b], _, _, e, h, k, hk => by
    cases e; left; simpa using hk
  | [b, a], _, _, e, h, k, hk => by
    cases e
    have : a = 0 := h.2.2.1
    simp at hk
    omega
  | b :: a :: a' :: r, _, _, e, h, k, hk => by
    cases e
    obtain ⟨h1, h2, h3, h4⟩ := h
    rcases List.mem_cons.1 hk with rfl | hk'
    · left; rfl
    rcases good_mem rfl h3 k hk' with rfl | rfl | ⟨p, c, q1, q2, q3, q⟩
    · right; right
      exact ⟨a', b, h3.1, h1, by omega, h3.2.1, h2, h4 _ _ rfl⟩
    · right; left; rfl
    · right; right; exact ⟨p, c, q1, q2, by omega, q⟩
theorem mem_stack {n : Nat} (hx : ∀ i j, i < j → j < n → x i < x j) (hn : 0 < n) (k : Nat) : k ∈ stack x y n ↔ k < n ∧ Corner x y n k := by
  obtain ⟨m, rfl⟩ : ∃ m, n = m + 1 := ⟨n - 1, by omega⟩
  obtain ⟨h1, r, h2⟩ := stack_good (x := x) (y := y) hx m (by omega)
  constructor
  · intro hk
    have hkm : k ≤ m := by
      rw [h2] at hk
      rcases List.mem_cons.1 hk with rfl | hk'
      · omega
      · have := good_lt h2 h1 k hk'; omega
    refine ⟨by omega, ?_⟩
    rcases good_mem h2 h1 k hk with rfl | rfl | ⟨a, c, ha, hc, hcm, s1, s2, s3⟩
    · intro i j _ _ _; omega
    · intro i j _ _ _; omega
    · intro i j hi hj hjn
      have xak := hx a k ha (by omega)
      have xkc := hx k c hc (by omega)
      have xik := hx i k hi (by omega)
      have xkj := hx k j hj hjn
      have k1 := s1 i (by omega)
      have k2 := s2 j hjn
      -- seen from k: i, a, c
      have e1 := cr4 (x := x) (y := y) k c a i
      have c1 : cr x y k a i = - cr x y a k i := by unfold cr; grind
      have c2 : cr x y k c a = cr x y a k c := by unfold cr; grind
      rw [c1, c2] at e1
      have p1 : 0 ≤ (x c - x k) * cr x y a k i := Int.mul_nonneg (by omega) k1
      have p2 : 0 < (x k - x i) * cr x y a k c := Int.mul_pos (by omega) s3
      have e2 : (x k - x a) * cr x y k c i = (x c - x k) * cr x y a k i + (x k - x i) * cr x y a k c := by grind
      have k3 : 0 < cr x y k c i := pos_of e2 (by omega) (by omega)
      -- seen from k: i, c, j
      have e3 := cr4 (x := x) (y := y) k i c j
      have c3 : cr x y k i j = - cr x y i k j := by unfold cr; grind
      have c4 : cr x y k i c = - cr x y k c i := by unfold cr; grind
      rw [c3, c4] at e3
      have p3 : 0 ≤ (x k - x i) * cr x y k c j := Int.mul_nonneg (by omega) k2
      have p4 : 0 < (x j - x k) * cr x y k c i := Int.mul_pos (by omega) k3
      have e4 : (x c - x k) * cr x y i k j = (x k - x i) * cr x y k c j + (x j - x k) * cr x y k c i := by grind
      exact pos_of e4 (by omega) (by omega)
  · rintro ⟨hk, hc⟩
    rcases good_cover h2 h1 k (by omega) with h | ⟨a, b, ha, hb, l1, l2, h3⟩
    · exact h
    · have hbm : b ≤ m := by
        rw [h2] at hb
        rcases List.mem_cons.1 hb with rfl | hb'
        · omega
        · have := good_lt h2 h1 b hb'; omega
      have := hc a b l1 l2 (by omega)
      have k1 := h3 k hk
      rw [cr_swap] at k1
      omega
theorem sorted_ext : ∀ {l m : List Nat}, l.Pairwise (fun a b => a < b) → m.Pairwise (fun a b => a < b) → (∀ k, k ∈ l ↔ k ∈ m) → l = m
  | [], [], _, _, _ => rfl
  | [], b :: m, _, _, h => by have := (h b).2 (by simp); cases this
  | a :: l, [], _, _, h => by have := (h a).1 (by simp); cases this
  | a :: l, b :: m, h1, h2, h => by
    rw [List.pairwise_cons] at h1 h2
    have e : a = b := by
      have q1 := (h a).1 (by simp)
      have q2 := (h b).2 (by simp)
      rcases List.mem_cons.1 q1 with e | q1
      · exact e
      rcases List.mem_cons.1 q2 with e | q2
      · exact e.symm
      have := h1.1 _ q2
      have := h2.1 _ q1
      omega
    subst e
    rw [sorted_ext h1.2 h2.2 (fun k => ?_)]
    constructor
    · intro hk
      rcases List.mem_cons.1 ((h k).1 (List.mem_cons_of_mem _ hk)) with rfl | q
      · have := h1.1 _ hk; omega
      · exact q
    · intro hk
      rcases List.mem_cons.1 ((h k).2 (List.mem_cons_of_mem _ hk)) with rfl | q
      · have := h2.1 _ hk; omega
      · exact q
theorem range_sorted (n : Nat) : (List.range n).Pairwise (fun a b => a < b) := List.pairwise_lt_range
theorem hull_corners {n : Nat} (hx : ∀ i j, i < j → j < n → x i < x j) (hn : 0 < n) (c : Nat → Bool) (hc : ∀ k, k < n → (c k = true ↔ Corner x y n k)) : (stack x y n).reverse = (List.range n).filter c := by
  apply sorted_ext
  · obtain ⟨m, rfl⟩ : ∃ m, n = m + 1 := ⟨n - 1, by omega⟩
    have := good_sorted (stack_good (x := x) (y := y) hx m (by omega)).1
    rw [List.pairwise_reverse]
    exact this
  · exact (range_sorted n).filter _
  · intro k
    rw [List.mem_reverse, mem_stack hx hn, List.mem_filter, List.mem_range]
    constructor
    · rintro ⟨a, b⟩; exact ⟨a, (hc k a).2 b⟩
    · rintro ⟨a, b⟩; exact ⟨a, (hc k a).1 b⟩
end
end Go.Plain
