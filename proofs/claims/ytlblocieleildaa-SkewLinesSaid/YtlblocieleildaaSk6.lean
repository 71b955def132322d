/- Valid gates, lists of numbers in a heap, and products that do not overflow. -/
import Derived.Test.YtlblocieleildaaSk4
set_option linter.unusedSimpArgs false
set_option linter.unusedVariables false
namespace Go.Proofs.Ytlblocieleildaa
open Go.Am

/-- gates that Check finds no error in -/
structure Ok (l : List Gt) : Prop where
  pos : 0 < l.length
  rng : ∀ i, i < l.length → 0 ≤ (gt l i).x ∧ (gt l i).x ≤ 1073741824 ∧ -1073741824 ≤ (gt l i).lo ∧ (gt l i).lo ≤ (gt l i).hi ∧ (gt l i).hi ≤ 1073741824
  step : ∀ i, i + 1 < l.length → (gt l i).x < (gt l (i + 1)).x
theorem Ok.lt {l : List Gt} (o : Ok l) : ∀ (i j : Nat), i < j → j < l.length → (gt l i).x < (gt l j).x := by
  intro i j
  induction j with
  | zero => intro h; omega
  | succ j ih =>
    intro h hj
    have := o.step j hj
    by_cases e : i = j
    · subst e; exact this
    · have := ih (by omega) (by omega); omega
theorem chk_zero (l : List Gt) : ∀ (k i : Nat), chk l k i = 0 ↔ ∀ j, i ≤ j → j < i + k → errAt l j = 0
  | 0, i => ⟨fun _ j h1 h2 => by omega, fun _ => rfl⟩
  | k + 1, i => by
    unfold chk
    by_cases he : errAt l i = 0
    · rw [if_pos he, chk_zero l k (i + 1)]
      constructor
      · intro h j h1 h2
        by_cases e : j = i
        · subst e; exact he
        · exact h j (by omega) (by omega)
      · intro h j h1 h2; exact h j (by omega) (by omega)
    · rw [if_neg he]
      constructor
      · intro h; exact absurd h he
      · intro h; exact absurd (h i (Nat.le_refl _) (by omega)) he
theorem checkZ_ok (l : List Gt) : checkZ l = 0 ↔ Ok l := by
  unfold checkZ
  by_cases hn : l = []
  · rw [if_pos hn]; subst hn
    exact ⟨fun h => by omega, fun h => by have := h.pos; simp at this⟩
  · rw [if_neg hn, chk_zero]
    have hp := List.length_pos_iff.2 hn
    constructor
    · intro h
      refine ⟨hp, fun i hi => ?_, fun i hi => ?_⟩
      · have := h i (Nat.zero_le _) (by omega)
        unfold errAt at this
        split at this
        · omega
        · rename_i h1
          split at this
          · omega
          · rename_i h2
            unfold rngBad at h1
            omega
      · have := h (i + 1) (Nat.zero_le _) (by omega)
        unfold errAt at this
        split at this
        · omega
        · split at this
          · omega
          · rename_i h2
            simp only [Nat.add_sub_cancel] at h2
            omega
    · intro h j _ hj
      have := h.rng j (by omega)
      unfold errAt
      rw [if_neg (by unfold rngBad; omega), if_neg]
      rintro (h1 | ⟨h1, h2⟩)
      · omega
      · have := h.step (j - 1) (by omega)
        rw [show j - 1 + 1 = j by omega] at this
        omega
theorem GA.grow {h h' : Heap} {l : List Gt} {a : Option Addr} (g : GA h l a) (k : Grow h h') : GA h' l a := fun hl => by
  obtain ⟨b, blk, ext, h1, h2, h3, h4⟩ := g hl
  exact ⟨b, blk, ext, h1, (k.get b h4).trans h2, h3, Nat.lt_of_lt_of_le h4 k.next⟩
theorem GA.ext {h h' : Heap} {l : List Gt} {a : Option Addr} (g : GA h l a) (k : Ext h h') : GA h' l a := fun hl => by
  obtain ⟨b, blk, ext, h1, h2, h3, h4⟩ := g hl
  exact ⟨b, blk, ext, h1, (k.get b h4).trans h2, h3, Nat.lt_of_lt_of_le h4 k.next⟩
/-- the elements of a list of numbers -/
def icells (xs : List Int) : List Value := xs.map (fun x => .int .i64 x)
def nat (xs : List Int) (i : Nat) : Int := xs.getD i 0
theorem icells_at (xs : List Int) (i : Nat) (hi : i < xs.length) : (icells xs)[i]? = some (.int .i64 (nat xs i)) := by
  unfold icells nat
  rw [List.getElem?_map, List.getD_eq_getElem?_getD, List.getElem?_eq_getElem hi]
  rfl
/-- a slice of numbers in a heap -/
def IA (h : Heap) (xs : List Int) (a : Option Addr) : Prop := xs ≠ [] → ∃ b blk ext, a = some ⟨b, 0, none⟩ ∧ h.get b = some blk ∧ blk.cells = icells xs ++ ext ∧ b < h.next
theorem IA.at {h : Heap} {xs : List Int} {a : Option Addr} (g : IA h xs a) {i : Nat} (hi : i < xs.length) : ∃ b blk, a = some ⟨b, 0, none⟩ ∧ h.get b = some blk ∧ blk.cells[i]? = some (.int .i64 (nat xs i)) ∧ b < h.next := by
  obtain ⟨b, blk, ext, h1, h2, h3, h4⟩ := g (fun e => by subst e; simp at hi)
  refine ⟨b, blk, h1, h2, ?_, h4⟩
  rw [h3, List.getElem?_append_left (by unfold icells; rw [List.length_map]; exact hi)]
  exact icells_at xs i hi
theorem IA.grow {h h' : Heap} {l : List Int} {a : Option Addr} (g : IA h l a) (k : Grow h h') : IA h' l a := fun hl => by
  obtain ⟨b, blk, ext, h1, h2, h3, h4⟩ := g hl
  exact ⟨b, blk, ext, h1, (k.get b h4).trans h2, h3, Nat.lt_of_lt_of_le h4 k.next⟩
theorem IA.ext {h h' : Heap} {l : List Int} {a : Option Addr} (g : IA h l a) (k : Ext h h') : IA h' l a := fun hl => by
  obtain ⟨b, blk, ext, h1, h2, h3, h4⟩ := g hl
  exact ⟨b, blk, ext, h1, (k.get b h4).trans h2, h3, Nat.lt_of_lt_of_le h4 k.next⟩
theorem OL.ia {h : Heap} {a : Option Addr} {c base : Nat} {xs : List Int} (o : OL h a c 1 (icells xs) xs.length base) : IA h xs a := fun hl => by
  rcases o.at_ with ⟨_, h0, _⟩ | ⟨b, ext, rfl, hg, hc, hb1, hb2, hc0⟩
  · exact absurd (List.eq_nil_of_length_eq_zero h0) hl
  · exact ⟨b, _, ext, rfl, hg, rfl, hb2⟩
theorem OL.ga {h : Heap} {a : Option Addr} {c base : Nat} {l : List Gt} (o : OL h a c 3 (gcells l) l.length base) : GA h l a := fun hl => by
  rcases o.at_ with ⟨_, h0, _⟩ | ⟨b, ext, rfl, hg, hc, hb1, hb2, hc0⟩
  · exact absurd (List.eq_nil_of_length_eq_zero h0) hl
  · exact ⟨b, _, ext, rfl, hg, rfl, hb2⟩
theorem mul_bd {a b A B : Int} (ha : -A ≤ a ∧ a ≤ A) (hb : -B ≤ b ∧ b ≤ B) : -(A * B) ≤ a * b ∧ a * b ≤ A * B := by
  have h1 : a.natAbs ≤ A.natAbs := by omega
  have h2 : b.natAbs ≤ B.natAbs := by omega
  have h3 := Nat.mul_le_mul h1 h2
  rw [← Int.natAbs_mul] at h3
  have h4 : ((A.natAbs * B.natAbs : Nat) : Int) = A * B := by
    rw [Int.natCast_mul, Int.natAbs_of_nonneg (by omega), Int.natAbs_of_nonneg (by omega)]
  omega
theorem w_sub {a b A B : Int} (ha : -A ≤ a ∧ a ≤ A) (hb : -B ≤ b ∧ b ≤ B) (hAB : A + B ≤ 9223372036854775807) : wrapF .i64 (a - b) = a - b := w64_in _ (by omega)
theorem w_mul {a b A B : Int} (ha : -A ≤ a ∧ a ≤ A) (hb : -B ≤ b ∧ b ≤ B) (hAB : A * B ≤ 9223372036854775807) : wrapF .i64 (a * b) = a * b := w64_in _ (by have := mul_bd ha hb; omega)
theorem b_sub {a b A B : Int} (ha : -A ≤ a ∧ a ≤ A) (hb : -B ≤ b ∧ b ≤ B) : -(A + B) ≤ a - b ∧ a - b ≤ A + B := by omega
theorem turn_eq {a b c d x y : Int} (ha : 0 ≤ a ∧ a ≤ 1073741824) (hc : 0 ≤ c ∧ c ≤ 1073741824) (hx : 0 ≤ x ∧ x ≤ 1073741824) (hb : -1073741824 ≤ b ∧ b ≤ 1073741824) (hd : -1073741824 ≤ d ∧ d ≤ 1073741824) (hy : -1073741824 ≤ y ∧ y ≤ 1073741824) :
    turnZ a b c d x y = (c - a) * (y - b) - (x - a) * (d - b) := by
  unfold turnZ
  have k1 := mul_bd (a := c - a) (b := y - b) (A := 1073741824) (B := 2147483648) (by omega) (by omega)
  have k2 := mul_bd (a := x - a) (b := d - b) (A := 1073741824) (B := 2147483648) (by omega) (by omega)
  rw [w64_in (c - a) (by omega), w64_in (y - b) (by omega), w64_in (x - a) (by omega), w64_in (d - b) (by omega), w64_in ((c - a) * (y - b)) (by omega), w64_in ((x - a) * (d - b)) (by omega), w64_in _ (by omega)]
/-- gates upside down -/
def turnedL (l : List Gt) : List Gt := l.map fun g => ⟨g.x, -g.hi, -g.lo⟩
theorem turnedL_len (l : List Gt) : (turnedL l).length = l.length := List.length_map _
theorem turnedL_at (l : List Gt) (i : Nat) (hi : i < l.length) : gt (turnedL l) i = ⟨(gt l i).x, -(gt l i).hi, -(gt l i).lo⟩ := by
  unfold gt turnedL
  rw [List.getD_eq_getElem?_getD, List.getD_eq_getElem?_getD, List.getElem?_map, List.getElem?_eq_getElem hi]
  rfl
theorem Ok.turned {l : List Gt} (o : Ok l) : Ok (turnedL l) := by
  have hl := turnedL_len l
  refine ⟨by rw [hl]; exact o.pos, fun i hi => ?_, fun i hi => ?_⟩
  · rw [hl] at hi; rw [turnedL_at l i hi]; have := o.rng i hi; dsimp only; omega
  · rw [hl] at hi; rw [turnedL_at l i (by omega), turnedL_at l (i + 1) hi]; exact o.step i hi
end Go.Proofs.Ytlblocieleildaa
