/- A grown list that is left behind together with a truth value. -/
import Derived.Test.YtlblocieleildaaAm32
set_option linter.unusedVariables false
set_option linter.unusedSimpArgs false
namespace Go.Am
theorem leave_one2 {h h1 : Heap} {b n c : Nat} {blk : Blk} {t : Bool} (hw : h1.wr = h.next) (hg : h1.get b = some blk) (hb : h.next ≤ b) (hfl : blk.flat = true) :
    leave h h1 [.slice (some ⟨b, 0, none⟩) n c, .bool t] = (.tuple #[.slice (some ⟨h.next, 0, none⟩) n c, .bool t], h.alloc blk, true) := by
  have h1' : Nat.ble h.next b = true := Nat.ble_eq_true_of_le hb
  have h2 : Nat.blt b h.next = false := by
    cases hh : Nat.blt b h.next
    · rfl
    · exact absurd (lt_of_blt hh) (by omega)
  unfold leave
  rw [hw, Nat.beq_refl]
  simp only [cond_true]
  unfold dropNew
  have h3 : ([Value.slice (some ⟨b, 0, none⟩) n c, Value.bool t].all flat) = false := rfl
  rw [h3]
  simp only [cond_false]
  have h4 : List.flatMap (newRef h.next) [Value.slice (some ⟨b, 0, none⟩) n c, Value.bool t] = [b] := by
    simp [newRef, h1']
  rw [h4]
  dsimp only
  unfold keepNew
  rw [hg]
  dsimp only
  rw [hfl]
  have h5 : flat (Value.bool t) = true := rfl
  simp only [cond_true, renAll, ren1, h2, Nat.beq_refl, cond_false, h5]
  rfl
theorem OL.leave2 {h h1 : Heap} {a : Option Addr} {c sz n : Nat} {cs : List Value} {t : Bool} (o : OL h1 a c sz cs n h.next) (hw : h1.wr = h.next) :
    ∃ a' h', Am.leave h h1 [.slice a n c, .bool t] = (.tuple #[.slice a' n c, .bool t], h', true) ∧ Grow h h' ∧ OL h' a' c sz cs n h.next := by
  rcases o.at_ with ⟨rfl, rfl, rfl⟩ | ⟨b, ext, rfl, hg, hc, hb1, hb2, hc0⟩
  · exact ⟨none, h, leave_flat hw rfl, Grow.refl h, o.len, o.le, .inl ⟨rfl, rfl, rfl⟩⟩
  · exact ⟨_, _, leave_one2 hw hg hb1 rfl, Grow.alloc h _, o.len, o.le, .inr ⟨h.next, ext, rfl, Heap.get_alloc_same h _, hc, Nat.le_refl _, Nat.lt_succ_self _, hc0⟩⟩
theorem OL.append2 {h : Heap} {a : Option Addr} {c sz n base bx bytes : Nat} {cs xs : List Value} {r : Bool} {g : Option Nat} (o : OL h a c sz cs n base) (hx : h.get bx = some ⟨xs, true, r, g⟩) (hl : xs.length = sz) (hb : (n + 1) * bytes ≤ 140737488355328) (hbase : base ≤ h.next) :
    ∃ a' c' rd f, appendM h (.slice a n c) (.slice (some ⟨bx, 0, none⟩) 1 1) (some (sz, bytes)) = some (.val (.slice a' (n + 1) c') rd f) ∧ OL (h.eff f) a' c' sz (cs ++ xs) (n + 1) base ∧ (∀ h0 : Heap, h0.next ≤ base → Ext h0 h → Ext h0 (h.eff f)) ∧ (c = n → c' = n + 1) ∧ h.next ≤ (h.eff f).next ∧ ∀ b, b < base → (h.eff f).get b = h.get b := by
  have h1 : cellsOf h sz (.slice (some ⟨bx, 0, none⟩) 1 1) = some ([bx], xs, true, 1) := by
    show ((h.get bx).bind fun blk => (cut blk.cells 0 (1 * sz)).map fun cs => ([bx], cs, blk.flat, 1)) = _
    rw [hx]
    simp only [Option.bind_some, cut_all xs sz hl, Option.map_some]
  have e1 : appendM h (.slice a n c) (.slice (some ⟨bx, 0, none⟩) 1 1) (some (sz, bytes)) = appendTo h sz bytes (.slice a n c) [bx] xs true 1 := by
    show appendV h sz bytes _ _ = _
    rw [h1]; rfl
  rw [e1]
  have h10 : Nat.beq 1 0 = false := rfl
  have hlen : (cs ++ xs).length = (n + 1) * sz := by rw [List.length_append, o.len, hl, Nat.add_mul]; omega
  rcases o.at_ with ⟨rfl, rfl, rfl⟩ | ⟨b, ext, rfl, hg, hc, hb1, hb2, hc0⟩
  · have hcs : cs = [] := List.eq_nil_of_length_eq_zero (by rw [o.len]; omega)
    subst hcs
    refine ⟨some ⟨h.next, 0, none⟩, 1, [bx], newBlk xs true (some sz), ?_, ⟨hlen, Nat.le_refl _, .inr ⟨h.next, [], rfl, ?_, ?_, hbase, Nat.lt_succ_self _, by omega⟩⟩, ?_, fun _ => rfl, Nat.le_succ _, fun b hb => Heap.get_alloc_ne h _ (by omega)⟩
    · unfold appendTo
      simp only [h10, Nat.beq_refl, Bool.and_self, cond_true, cond_false, Nat.ble_eq_true_of_le (show 1 * bytes ≤ 140737488355328 by omega)]
    · show (h.alloc _).get h.next = _
      rw [Heap.get_alloc_same]; simp
    · rw [List.append_nil, hlen]
    · intro h0 _ e; exact e.alloc _
  · unfold appendTo
    simp only [hg, h10, cond_false, Option.bind_some, Bool.true_and, Bool.and_true, Bool.not_false]
    by_cases hle : n + 1 ≤ c
    · have h3 : Nat.ble (0 + (n + 1) * sz) (cs ++ ext).length = true := Nat.ble_eq_true_of_le (by rw [hc, Nat.zero_add]; exact Nat.mul_le_mul_right _ hle)
      simp only [Nat.ble_eq_true_of_le hle, h3, cond_true]
      have hext : sz ≤ ext.length := by
        rw [List.length_append, o.len] at hc
        have := Nat.mul_le_mul_right sz hle
        rw [Nat.add_mul] at this
        omega
      have hp : putAll (cs ++ ext) (0 + n * sz) xs = (cs ++ xs) ++ ext.drop xs.length := by
        rw [Nat.zero_add, ← o.len]; exact putAll_front cs ext xs (by omega)
      refine ⟨_, _, _, _, rfl, ⟨hlen, hle, .inr ⟨b, ext.drop xs.length, rfl, ?_, ?_, hb1, hb2, hc0⟩⟩, fun h0 hh e => e.set (by omega) _, fun e => by omega, Nat.le_refl _, fun b' hb' => Heap.get_set_ne h _ (by omega)⟩
      · show (h.set b _).get b = _
        rw [Heap.get_set_same, hp]
      · rw [List.length_append, hlen, List.length_drop, hl]
        rw [List.length_append, o.len] at hc
        rw [← hc, Nat.add_mul]; omega
    · have h3 : Nat.ble (n + 1) c = false := by
        cases hh : Nat.ble (n + 1) c
        · rfl
        · exact absurd (Nat.le_of_ble_eq_true hh) hle
      have h4 : cut (cs ++ ext) 0 (n * sz) = some cs := cut_front cs ext _ o.len
      simp only [h3, cond_false, Nat.ble_eq_true_of_le hb, cond_true, h4, Option.bind_some, Nat.beq_refl]
      refine ⟨_, _, _, _, rfl, ⟨hlen, Nat.le_refl _, .inr ⟨h.next, [], rfl, ?_, ?_, hbase, Nat.lt_succ_self _, by omega⟩⟩, fun h0 hh e => (e.kill (by omega)).alloc _, fun _ => rfl, Nat.le_succ _, fun b' hb' => (Heap.get_alloc_ne (h.kill b) _ (show b' ≠ h.next by omega)).trans (Heap.get_kill_ne h (by omega))⟩
      · show ((h.kill b).alloc _).get (h.kill b).next = _
        rw [Heap.get_alloc_same, List.append_nil]
      · rw [List.append_nil, hlen]
end Go.Am
