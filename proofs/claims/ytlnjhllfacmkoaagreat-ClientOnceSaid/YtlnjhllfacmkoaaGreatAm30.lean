/- Lists that grow: slices that a function makes itself by append. -/
import Derived.Test.YtlnjhllfacmkoaaGreatAm29
set_option linter.unusedVariables false
set_option linter.unusedSimpArgs false
namespace Go.Am
/-- all of the elder heap stays -/
structure Grow (h h' : Heap) : Prop where
  next : h.next ≤ h'.next
  get : ∀ b, b < h.next → h'.get b = h.get b
  wr : h'.wr = h.wr
theorem Grow.refl (h : Heap) : Grow h h := ⟨Nat.le_refl _, fun _ _ => rfl, rfl⟩
theorem Grow.alloc (h : Heap) (x : Blk) : Grow h (h.alloc x) := ⟨Nat.le_succ _, fun b hb => Heap.get_alloc_ne h x (Nat.ne_of_lt hb), rfl⟩
theorem Grow.trans {h h1 h2 : Heap} (a : Grow h h1) (b : Grow h1 h2) : Grow h h2 := ⟨Nat.le_trans a.next b.next, fun x hx => (b.get x (Nat.lt_of_lt_of_le hx a.next)).trans (a.get x hx), b.wr.trans a.wr⟩
theorem Ext.grow {h0 h1 h2 : Heap} (a : Ext h0 h1) (b : Grow h1 h2) : Ext h0 h2 := ⟨Nat.le_trans a.next b.next, fun x hx => (b.get x (Nat.lt_of_lt_of_le hx a.next)).trans (a.get x hx), b.wr.trans a.wr⟩
/-- an own growing list of n elements of size sz: nil, or the front of a block -/
structure OL (h : Heap) (a : Option Addr) (c : Nat) (sz : Nat) (cs : List Value) (n base : Nat) : Prop where
  len : cs.length = n * sz
  le : n ≤ c
  at_ : (a = none ∧ n = 0 ∧ c = 0) ∨ ∃ b ext, a = some ⟨b, 0, none⟩ ∧ h.get b = some ⟨cs ++ ext, true, false, some sz⟩ ∧ (cs ++ ext).length = c * sz ∧ base ≤ b ∧ b < h.next ∧ 0 < c
theorem OL.nil (h : Heap) (sz base : Nat) : OL h none 0 sz [] 0 base := ⟨by simp, Nat.le_refl _, .inl ⟨rfl, rfl, rfl⟩⟩
theorem cut_all (cs : List Value) (sz : Nat) (h : cs.length = sz) : cut cs 0 (1 * sz) = some cs := by
  unfold cut
  rw [Nat.one_mul, Nat.zero_add, ← h, Nat.ble_eq_true_of_le (Nat.le_refl _)]
  simp
theorem cut_front (cs ext : List Value) (k : Nat) (h : cs.length = k) : cut (cs ++ ext) 0 k = some cs := by
  unfold cut
  rw [Nat.zero_add, Nat.ble_eq_true_of_le (by rw [List.length_append]; omega), ← h]
  simp
theorem putAll_front (cs ext xs : List Value) (h : xs.length ≤ ext.length) : putAll (cs ++ ext) cs.length xs = (cs ++ xs) ++ ext.drop xs.length := by
  unfold putAll
  rw [List.take_left, List.drop_append, List.drop_eq_nil_of_le (by omega)]
  rw [show cs.length + xs.length - cs.length = xs.length by omega]
  simp
theorem OL.append {h : Heap} {a : Option Addr} {c sz n base bx bytes : Nat} {cs xs : List Value} {r : Bool} {g : Option Nat} (o : OL h a c sz cs n base) (hx : h.get bx = some ⟨xs, true, r, g⟩) (hl : xs.length = sz) (hb : (n + 1) * bytes ≤ 140737488355328) (hbase : base ≤ h.next) :
    ∃ a' c' rd f, appendM h (.slice a n c) (.slice (some ⟨bx, 0, none⟩) 1 1) (some (sz, bytes)) = some (.val (.slice a' (n + 1) c') rd f) ∧ OL (h.eff f) a' c' sz (cs ++ xs) (n + 1) base ∧ (∀ h0 : Heap, h0.next ≤ base → Ext h0 h → Ext h0 (h.eff f)) ∧ (c = n → c' = n + 1) := by
  have h1 : cellsOf h sz (.slice (some ⟨bx, 0, none⟩) 1 1) = some ([bx], xs, true, 1) := by
    show ((h.get bx).bind fun blk => (cut blk.cells 0 (1 * sz)).map fun cs => ([bx], cs, blk.flat, 1)) = _
    rw [hx]
    simp only [Option.bind_some, cut_all xs sz hl, Option.map_some]
  have e1 : appendM h (.slice a n c) (.slice (some ⟨bx, 0, none⟩) 1 1) (some (sz, bytes)) = appendTo h sz bytes (.slice a n c) [bx] xs true 1 := by
    show appendV h sz bytes _ _ = _
    rw [h1]; rfl
  rw [e1]
  have h10 : Nat.beq 1 0 = false := rfl
  have hlen : (cs ++ xs).length = (n + 1) * sz := by rw [List.length_append, o.len, hl, Nat.add_mul]; omega
  rcases o.at_ with ⟨rfl, rfl, rfl⟩ | ⟨b, ext, rfl, hg, hc, hb1, hb2, hc0⟩
  · have hcs : cs = [] := List.eq_nil_of_length_eq_zero (by rw [o.len]; omega)
    subst hcs
    refine ⟨some ⟨h.next, 0, none⟩, 1, [bx], newBlk xs true (some sz), ?_, ⟨hlen, Nat.le_refl _, .inr ⟨h.next, [], rfl, ?_, ?_, hbase, Nat.lt_succ_self _, by omega⟩⟩, ?_, fun _ => rfl⟩
    · unfold appendTo
      simp only [h10, Nat.beq_refl, Bool.and_self, cond_true, cond_false, Nat.ble_eq_true_of_le (show 1 * bytes ≤ 140737488355328 by omega)]
    · show (h.alloc _).get h.next = _
      rw [Heap.get_alloc_same]; simp
    · rw [List.append_nil, hlen]
    · intro h0 _ e; exact e.alloc _
  · unfold appendTo
    simp only [hg, h10, cond_false, Option.bind_some, Bool.true_and, Bool.and_true, Bool.not_false]
    by_cases hle : n + 1 ≤ c
    · have h3 : Nat.ble (0 + (n + 1) * sz) (cs ++ ext).length = true := Nat.ble_eq_true_of_le (by rw [hc, Nat.zero_add]; exact Nat.mul_le_mul_right _ hle)
      simp only [Nat.ble_eq_true_of_le hle, h3, cond_true]
      have hext : sz ≤ ext.length := by
        rw [List.length_append, o.len] at hc
        have := Nat.mul_le_mul_right sz hle
        rw [Nat.add_mul] at this
        omega
      have hp : putAll (cs ++ ext) (0 + n * sz) xs = (cs ++ xs) ++ ext.drop xs.length := by
        rw [Nat.zero_add, ← o.len]; exact putAll_front cs ext xs (by omega)
      refine ⟨_, _, _, _, rfl, ⟨hlen, hle, .inr ⟨b, ext.drop xs.length, rfl, ?_, ?_, hb1, hb2, hc0⟩⟩, fun h0 hh e => e.set (by omega) _, fun e => by omega⟩
      · show (h.set b _).get b = _
        rw [Heap.get_set_same, hp]
      · rw [List.length_append, hlen, List.length_drop, hl]
        rw [List.length_append, o.len] at hc
        rw [← hc, Nat.add_mul]; omega
    · have h3 : Nat.ble (n + 1) c = false := by
        cases hh : Nat.ble (n + 1) c
        · rfl
        · exact absurd (Nat.le_of_ble_eq_true hh) hle
      have h4 : cut (cs ++ ext) 0 (n * sz) = some cs := cut_front cs ext _ o.len
      simp only [h3, cond_false, Nat.ble_eq_true_of_le hb, cond_true, h4, Option.bind_some, Nat.beq_refl]
      refine ⟨_, _, _, _, rfl, ⟨hlen, Nat.le_refl _, .inr ⟨h.next, [], rfl, ?_, ?_, hbase, Nat.lt_succ_self _, by omega⟩⟩, fun h0 hh e => (e.kill (by omega)).alloc _, fun _ => rfl⟩
      · show ((h.kill b).alloc _).get (h.kill b).next = _
        rw [Heap.get_alloc_same, List.append_nil]
      · rw [List.append_nil, hlen]
theorem OL.pop {h : Heap} {a : Option Addr} {c sz n base : Nat} {cs : List Value} (o : OL h a c sz cs (n + 1) base) :
    ∃ rd, sliceV h sz none (some (.int .i64 (n : Int))) (asSl (.slice a (n + 1) c)) = some (.val (.slice a n c) rd .non) ∧ OL h a c sz (cs.take (n * sz)) n base := by
  rcases o.at_ with ⟨_, h0, _⟩ | ⟨b, ext, rfl, hg, hc, hb1, hb2, hc0⟩
  · omega
  have hnc : n ≤ c := by have := o.le; omega
  refine ⟨[b], ?_, ⟨?_, hnc, .inr ⟨b, cs.drop (n * sz) ++ ext, rfl, ?_, ?_, hb1, hb2, hc0⟩⟩⟩
  · show sliceV h sz none _ (some (some (b, 0), n + 1, c)) = _
    have h1 : cutAt c (n + 1) (some (.int .i64 (n : Int))) = some n := by
      show (bif Nat.ble n c then some n else none) = _
      rw [Nat.ble_eq_true_of_le hnc]; rfl
    have h2 : growOk h sz b = some false := by unfold growOk; rw [hg]; simp
    have h3 : Nat.beq 0 c = false := by cases c; · omega
                                        · rfl
    unfold sliceV
    simp only [h1, Option.bind_some, cutAt, Nat.ble_eq_true_of_le hnc, cond_true, h2, h3, cond_false, Nat.sub_zero, Nat.zero_mul, Nat.add_zero]
  · rw [List.length_take, o.len, Nat.add_mul]; omega
  · rw [← List.append_assoc, List.take_append_drop]; exact hg
  · rw [← List.append_assoc, List.take_append_drop]; exact hc
theorem OL.cell {h : Heap} {a : Option Addr} {c n base : Nat} {cs : List Value} (o : OL h a c 1 cs n base) {i : Nat} (hi : i < n) : ∃ b blk, a = some ⟨b, 0, none⟩ ∧ h.get b = some blk ∧ blk.cells[i]? = cs[i]? := by
  rcases o.at_ with ⟨_, h0, _⟩ | ⟨b, ext, rfl, hg, hc, hb1, hb2, hc0⟩
  · omega
  · refine ⟨b, _, rfl, hg, ?_⟩
    show (cs ++ ext)[i]? = _
    rw [List.getElem?_append_left (by have := o.len; omega)]
theorem OL.ext {h h1 : Heap} {a : Option Addr} {c sz n base : Nat} {cs : List Value} (o : OL h a c sz cs n base) (hn : h.next ≤ h1.next) (hg : ∀ b, base ≤ b → b < h.next → h1.get b = h.get b) : OL h1 a c sz cs n base := by
  refine ⟨o.len, o.le, ?_⟩
  rcases o.at_ with h0 | ⟨b, ext, rfl, hg1, hc, hb1, hb2, hc0⟩
  · exact .inl h0
  · exact .inr ⟨b, ext, rfl, (hg b hb1 hb2).trans hg1, hc, hb1, by omega, hc0⟩
theorem OL.grow {h h1 : Heap} {a : Option Addr} {c sz n base : Nat} {cs : List Value} (o : OL h a c sz cs n base) (g : Grow h h1) : OL h1 a c sz cs n base := o.ext g.next fun b _ hb => g.get b hb
theorem OL.alloc {h : Heap} {a : Option Addr} {c sz n base : Nat} {cs : List Value} (o : OL h a c sz cs n base) (x : Blk) : OL (h.alloc x) a c sz cs n base := o.grow (Grow.alloc h x)
/-- what such a list is to the caller -/
theorem OL.leave {h h1 : Heap} {a : Option Addr} {c sz n : Nat} {cs : List Value} (o : OL h1 a c sz cs n h.next) (hw : h1.wr = h.next) :
    ∃ a' h', leave h h1 [.slice a n c] = (.slice a' n c, h', true) ∧ Grow h h' ∧ OL h' a' c sz cs n h.next := by
  rcases o.at_ with ⟨rfl, rfl, rfl⟩ | ⟨b, ext, rfl, hg, hc, hb1, hb2, hc0⟩
  · exact ⟨none, h, leave_flat hw rfl, Grow.refl h, o.len, o.le, .inl ⟨rfl, rfl, rfl⟩⟩
  · exact ⟨_, _, leave_one hw hg hb1 rfl, Grow.alloc h _, o.len, o.le, .inr ⟨h.next, ext, rfl, Heap.get_alloc_same h _, hc, Nat.le_refl _, Nat.lt_succ_self _, hc0⟩⟩
end Go.Am
namespace Go.Am
theorem zeros3 : zeros #[Value.int .i64 0, .int .i64 0, .int .i64 0] (1 * 3) = #[.int .i64 0, .int .i64 0, .int .i64 0] := by unfold zeros; apply Array.ext' ; simp; rfl
theorem zeros1 : zeros #[Value.int .i64 0] (1 * 1) = #[.int .i64 0] := by unfold zeros; apply Array.ext' ; simp
theorem bsM_3 (h : Heap) (k l m : IntKind) (a b c : Int) : bsM 1 h [(0, .agg #[.int k a, .int l b, .int m c])] (some (3, .agg #[.int .i64 0, .int .i64 0, .int .i64 0])) = some (.val (.slice (some ⟨h.next, 0, none⟩) 1 1) [] (.new ⟨[.int k a, .int l b, .int m c], true, false, none⟩)) := by
  unfold bsM
  show (bif Nat.ble (1 * 3) 16777216 then buildSliceV 1 _ h (fillA _ (zeros #[Value.int .i64 0, .int .i64 0, .int .i64 0] (1 * 3)) _) else none) = _
  rw [zeros3]
  rfl
theorem bsM_1 (h : Heap) (k : IntKind) (a : Int) : bsM 1 h [(0, .int k a)] (some (1, .int .i64 0)) = some (.val (.slice (some ⟨h.next, 0, none⟩) 1 1) [] (.new ⟨[.int k a], true, false, none⟩)) := by
  unfold bsM
  show (bif Nat.ble (1 * 1) 16777216 then buildSliceV 1 _ h (fillA _ (zeros #[Value.int .i64 0] (1 * 1)) _) else none) = _
  rw [zeros1]
  rfl
attribute [go_sem] bsM_3 bsM_1 Nat.mul_one
end Go.Am
namespace Go.Am
theorem OL.base {h : Heap} {a : Option Addr} {c sz n base base' : Nat} {cs : List Value} (o : OL h a c sz cs n base) (hb : base' ≤ base) : OL h a c sz cs n base' := by
  refine ⟨o.len, o.le, ?_⟩
  rcases o.at_ with h0 | ⟨b, ext, h1, h2, h3, h4, h5⟩
  · exact .inl h0
  · exact .inr ⟨b, ext, h1, h2, h3, by omega, h5⟩
end Go.Am
