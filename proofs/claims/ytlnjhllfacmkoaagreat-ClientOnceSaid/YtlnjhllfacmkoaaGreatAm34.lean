/- A law's call, from a run of the abstract machine as a whole. -/
import Derived.Test.YtlnjhllfacmkoaaGreatAm31
set_option linter.unusedVariables false
namespace Go.Am
open Go.RowKit
theorem law_run {P : Program} {H : FuncId → Draws} (hk : okProg P H = true) {n : Nat} {f : FuncId} {args args' : List Value} {m : Mp} {w : World} {h h' : Heap} {q : Bool}
    (hrun : call P H n f args h = some (.bool true, h', q)) (hw : HWf h) (ha : ∀ v ∈ args, Sc (· < h.next) v) (hheap : HRel w.heap.size w m h.get w) (hrel : LRel m args args') :
    Calls P f args'.toArray w fun en w' => en = .returned (.bool true) ∧ Below w.heap.size w w' := by
  refine (callW_ok (B := w.heap.size) (w0 := w) hk f args h (.bool true) h' q (callW_iff.2 ⟨n, hrun⟩) m w args' hw ha hheap hrel).mono fun en w' ⟨v', m', e1, e2, e3, e4⟩ => ?_
  have := e2.of_flat (by rfl)
  subst this
  exact ⟨e1, e3.below⟩
theorem rel_heap0 {w : World} : HRel w.heap.size w (fun _ => ⟨0, 0, 0, none⟩) heap0.get w := ⟨Below.refl _ _, Nat.le_refl _, fun b x hb => none_heap0 hb, fun b b' x x' hb => none_heap0 hb⟩
end Go.Am
