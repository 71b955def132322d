/- Gates written in place, and when two lists of gates have the same bounds of slopes. -/
import Derived.Test.YtlblocieleildaaSk21
import Derived.Test.YtlblocieleildaaAm32
set_option linter.unusedSimpArgs false
set_option linter.unusedVariables false
namespace Go.Proofs.Ytlblocieleildaa
open Go.Am Go.Plain

/-- all slopes that suit all gates -/
def AllFe (l : List Gt) (p q : Int) : Prop := ∀ i j, i < l.length → j < l.length → Fe l p q i j
theorem ref_le {l M : List Gt} (o : Ok l) (o' : Ok M) (h2 : 2 ≤ l.length) (h2' : 2 ≤ M.length) (H : ∀ p q, 0 < q → AllFe l p q → AllFe M p q) (h : (leastR l).n * (greatR l).d ≤ (greatR l).n * (leastR l).d) :
    (greatR l).n * (greatR M).d ≤ (greatR M).n * (greatR l).d ∧ (leastR M).n * (leastR l).d ≤ (leastR l).n * (leastR M).d := by
  have gr := greatR_min o h2
  have kr := leastR_max o h2
  have gr' := greatR_min o' h2'
  have kr' := leastR_max o' h2'
  have f1 : AllFe l (greatR l).n (greatR l).d := fe_of_ref o (Int.le_of_lt gr.low.d0) gr.le (fun r hr => fr_trans (rlP_pos o r hr) kr.low.d0 gr.low.d0 (kr.ge r hr) h)
  have f2 : AllFe l (leastR l).n (leastR l).d := fe_of_ref o (Int.le_of_lt kr.low.d0) (fun r hr => fr_trans kr.low.d0 gr.low.d0 (rgP_pos o r hr) h (gr.le r hr)) kr.ge
  exact ⟨min_le gr.low gr' (rgP_pos o') (ref_of_fe (H _ _ gr.low.d0 f1)).1, le_max kr.low kr' (rlP_pos o') (ref_of_fe (H _ _ kr.low.d0 f2)).2⟩
theorem ref_pass {l M : List Gt} (o : Ok l) (o' : Ok M) (h2 : 2 ≤ l.length) (h2' : 2 ≤ M.length) (H : ∀ p q, 0 < q → AllFe l p q → AllFe M p q) (h : (leastR l).n * (greatR l).d ≤ (greatR l).n * (leastR l).d) :
    (leastR M).n * (greatR M).d ≤ (greatR M).n * (leastR M).d := by
  obtain ⟨k1, k2⟩ := ref_le o o' h2 h2' H h
  have gr := greatR_min o h2
  have kr := leastR_max o h2
  have gr' := greatR_min o' h2'
  have kr' := leastR_max o' h2'
  exact fr_trans kr'.low.d0 kr.low.d0 gr'.low.d0 k2 (fr_trans kr.low.d0 gr.low.d0 gr'.low.d0 h k1)
theorem sl_same {l M : List Gt} (o : Ok l) (o' : Ok M) (hlen : M.length = l.length) (H : ∀ p q, 0 < q → (AllFe l p q ↔ AllFe M p q)) : slP M = slP l := by
  rw [sl_eq, sl_eq]
  unfold slR
  rw [if_pos ((checkZ_ok l).2 o), if_pos ((checkZ_ok M).2 o'), hlen]
  by_cases h1 : l.length = 1
  · rw [if_pos (.inl h1), if_pos (.inl h1)]
  have h2 : 2 ≤ l.length := by have := o.pos; omega
  have h2' : 2 ≤ M.length := by omega
  have gr := greatR_min o h2
  have kr := leastR_max o h2
  have gr' := greatR_min o' h2'
  have kr' := leastR_max o' h2'
  have l1 := less_low gr.low kr.low
  have l2 := less_low gr'.low kr'.low
  have Hf : ∀ p q, 0 < q → AllFe l p q → AllFe M p q := fun p q hq => (H p q hq).1
  have Hb : ∀ p q, 0 < q → AllFe M p q → AllFe l p q := fun p q hq => (H p q hq).2
  cases hr : lessZ (greatR l).n (greatR l).d (leastR l).n (leastR l).d
  · have hle : (leastR l).n * (greatR l).d ≤ (greatR l).n * (leastR l).d := Int.not_lt.1 fun h => by rw [l1.2 h] at hr; cases hr
    have hle' := ref_pass o o' h2 h2' Hf hle
    obtain ⟨a1, a2⟩ := ref_le o o' h2 h2' Hf hle
    obtain ⟨b1, b2⟩ := ref_le o' o h2' h2 Hb hle'
    have e1 := low_eq' gr.low gr'.low a1 b1
    have e2 := low_eq' kr.low kr'.low b2 a2
    rw [← e1, ← e2, hr]
  · cases hr' : lessZ (greatR M).n (greatR M).d (leastR M).n (leastR M).d
    · exfalso
      have hle' : (leastR M).n * (greatR M).d ≤ (greatR M).n * (leastR M).d := Int.not_lt.1 fun h => by rw [l2.2 h] at hr'; cases hr'
      have := ref_pass o' o h2' h2 Hb hle'
      have := l1.1 hr
      omega
    · rw [if_pos (.inr rfl), if_pos (.inr rfl)]
/-! ### Gates written in place -/
theorem gcells_app2 (l r : List Gt) : gcells (l ++ r) = gcells l ++ gcells r := by
  induction l with
  | nil => rfl
  | cons g l ih => simp only [List.cons_append, gcells, ih]
theorem split_at (M : List Gt) (i : Nat) (hi : i < M.length) : M = M.take i ++ gt M i :: M.drop (i + 1) := by
  have e : M.drop i = gt M i :: M.drop (i + 1) := by
    rw [List.drop_eq_getElem_cons hi]
    unfold gt
    rw [List.getD_eq_getElem?_getD, List.getElem?_eq_getElem hi]
    rfl
  rw [← e, List.take_append_drop]
theorem set_split (M : List Gt) (i : Nat) (hi : i < M.length) (g : Gt) : M.set i g = M.take i ++ g :: M.drop (i + 1) := by
  rw [List.set_eq_take_append_cons_drop, if_pos hi]
theorem gcells_take_len (M : List Gt) (i : Nat) (hi : i < M.length) : (gcells (M.take i)).length = i * 3 := by rw [gcells_len, List.length_take]; omega
theorem put_hi (M : List Gt) (ext : List Value) (i : Nat) (hi : i < M.length) (v : Int) : putAll (gcells M ++ ext) (i * 3 + 2) [.int .i64 v] = gcells (M.set i ⟨(gt M i).x, (gt M i).lo, v⟩) ++ ext := by
  rw [set_split M i hi]
  conv => lhs; rw [split_at M i hi]
  rw [gcells_app2, gcells_app2]
  simp only [gcells]
  have e := gcells_take_len M i hi
  generalize gcells (M.take i) = A at e ⊢
  unfold putAll
  rw [← e]
  simp [List.take_append, List.drop_append, List.take_of_length_le, List.drop_eq_nil_of_le, Nat.add_sub_cancel_left]
  rw [List.drop_eq_nil_of_le (show A.length ≤ A.length + 2 + 1 by omega), show A.length + 2 + 1 - A.length = 3 by omega]
  rfl
theorem put_lo (M : List Gt) (ext : List Value) (i : Nat) (hi : i < M.length) (v : Int) : putAll (gcells M ++ ext) (i * 3 + 1) [.int .i64 v] = gcells (M.set i ⟨(gt M i).x, v, (gt M i).hi⟩) ++ ext := by
  rw [set_split M i hi]
  conv => lhs; rw [split_at M i hi]
  rw [gcells_app2, gcells_app2]
  simp only [gcells]
  have e := gcells_take_len M i hi
  generalize gcells (M.take i) = A at e ⊢
  unfold putAll
  rw [← e]
  simp [List.take_append, List.drop_append, List.take_of_length_le, List.drop_eq_nil_of_le, Nat.add_sub_cancel_left]
  rw [List.drop_eq_nil_of_le (show A.length ≤ A.length + 1 + 1 by omega), show A.length + 1 + 1 - A.length = 2 by omega]
  rfl
theorem gt_set (M : List Gt) (i k : Nat) (hi : i < M.length) (g : Gt) : gt (M.set i g) k = if i = k then g else gt M k := by
  unfold gt
  rw [List.getD_eq_getElem?_getD, List.getD_eq_getElem?_getD, List.getElem?_set]
  by_cases h : i = k
  · subst h; rw [if_pos rfl, if_pos rfl, if_pos hi]; rfl
  · rw [if_neg h, if_neg h]
/-- a copy of gates, appended to an empty literal -/
theorem append_copy {h : Heap} {l : List Gt} {a : Option Addr} {c : Nat} {k : Nat} (hg : GA h l a) (hp : 0 < l.length) (hl : l.length ≤ 1000) (hk : h.get k = some ⟨[], true, false, none⟩) :
    ∃ fl, appendM h (.slice (some ⟨k, 0, none⟩) 0 0) (.slice a l.length c) (some (3, 24)) = some (.val (.slice (some ⟨h.next, 0, none⟩) l.length l.length) [k, (a.map Addr.block).getD 0] (.new ⟨gcells l, fl, false, some 3⟩)) := by
  obtain ⟨b, blk, ext, rfl, hb, hc, hbl⟩ := hg (ne_of_lt hp)
  refine ⟨blk.flat, ?_⟩
  have h1 : cellsOf h 3 (.slice (some ⟨b, 0, none⟩) l.length c) = some ([b], gcells l, blk.flat, l.length) := by
    show ((h.get b).bind fun blk => (cut blk.cells 0 (l.length * 3)).map fun cs => ([b], cs, blk.flat, l.length)) = _
    rw [hb, Option.bind_some, hc, cut_front (gcells l) ext _ (gcells_len l)]
    rfl
  show appendV h 3 24 _ _ = _
  rw [h1]
  show appendTo h 3 24 (.slice (some ⟨k, 0, none⟩) 0 0) [b] (gcells l) blk.flat l.length = _
  have h2 : Nat.beq l.length 0 = false := by
    cases hh : Nat.beq l.length 0
    · rfl
    · have := Nat.eq_of_beq_eq_true hh; omega
  have h3 : Nat.ble l.length 0 = false := by
    cases hh : Nat.ble l.length 0
    · rfl
    · have := Nat.le_of_ble_eq_true hh; omega
  have h4 : Nat.ble (l.length * 24) 140737488355328 = true := Nat.ble_eq_true_of_le (by omega)
  unfold appendTo
  simp only [hk, Option.bind_some, h2, h3, h4, cond_false, cond_true, Nat.zero_mul, cut, Nat.zero_add, List.length_nil, Nat.ble_eq_true_of_le (Nat.le_refl 0), List.drop_nil, List.take_nil, List.nil_append, Bool.true_and]
  rfl
theorem bsM_0 (h : Heap) (z : Value) : bsM 0 h [] (some (3, z)) = some (.val (.slice (some ⟨h.next, 0, none⟩) 0 0) [] (.new ⟨[], true, false, none⟩)) := by
  unfold bsM
  show (bif Nat.ble (0 * 3) 16777216 then buildSliceV 0 _ h (fillA _ (zeros z.cells (0 * 3)) []) else none) = _
  have e : zeros z.cells (0 * 3) = #[] := by unfold zeros; simp
  rw [e]
  rfl
attribute [go_sem] bsM_0
end Go.Proofs.Ytlblocieleildaa
