/- Heaps that have grown out of another one. -/
import Derived.Test.YtlnjhllfacmkoaaGreatAm26
set_option linter.unusedVariables false
namespace Go.Am
/-- all of the elder heap is there yet, and nothing of it was written -/
structure Ext (h0 h1 : Heap) : Prop where
  next : h0.next ≤ h1.next
  get : ∀ b, b < h0.next → h1.get b = h0.get b
  wr : h1.wr = h0.next
theorem Ext.low (h : Heap) : Ext h (h.low h.next) := ⟨Nat.le_refl _, fun _ _ => rfl, rfl⟩
theorem Ext.alloc {h0 h1 : Heap} (k : Ext h0 h1) (x : Blk) : Ext h0 (h1.alloc x) := ⟨Nat.le_succ_of_le k.next, fun b hb => (Heap.get_alloc_ne h1 x (Nat.ne_of_lt (Nat.lt_of_lt_of_le hb k.next))).trans (k.get b hb), k.wr⟩
theorem Ext.set {h0 h1 : Heap} (k : Ext h0 h1) {b : Nat} (hb : h0.next ≤ b) (x : Blk) : Ext h0 (h1.set b x) :=
  ⟨k.next, fun c hc => (Heap.get_set_ne h1 x (by omega)).trans (k.get c hc), by rw [Heap.wr_set, k.wr, if_neg (by omega)]⟩
theorem Ext.kill {h0 h1 : Heap} (k : Ext h0 h1) {b : Nat} (hb : h0.next ≤ b) : Ext h0 (h1.kill b) :=
  ⟨k.next, fun c hc => (Heap.get_kill_ne h1 (by omega)).trans (k.get c hc), by rw [Heap.wr_kill, k.wr, if_neg (by omega)]⟩
theorem Ext.fact {h0 h1 : Heap} (k : Ext h0 h1) : (h1.next < h1.wr) = False := eq_false (by rw [k.wr]; exact Nat.not_lt.2 k.next)
theorem Ext.fact' {h0 h1 : Heap} (k : Ext h0 h1) : (h1.next < h0.next) = False := eq_false (Nat.not_lt.2 k.next)
theorem Ext.ne {h0 h1 : Heap} (k : Ext h0 h1) {b : Nat} (hb : b < h0.next) : (b = h1.next) = False := eq_false (Nat.ne_of_lt (Nat.lt_of_lt_of_le hb k.next))
theorem Ext.ne' {h0 h1 : Heap} (k : Ext h0 h1) {b : Nat} (hb : b < h0.next) : (h1.next = b) = False := eq_false (Nat.ne_of_gt (Nat.lt_of_lt_of_le hb k.next))
end Go.Am
