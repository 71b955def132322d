/- A law's call, from the walk of its code; the closed call that all laws end with is run once. -/
import Derived.Test.YtlnjhllfacmkoaaGreatAm30
set_option linter.unusedVariables false
set_option linter.unusedSimpArgs false
namespace Go.Am
open Go.RowKit
noncomputable section
/-- calls as they are, but for one closed call whose answer is known -/
def cfA (P : Program) (H : FuncId → Draws) (A : FuncId) : CallF := fun f args h => if f = A then (match args with | [] => some (.bool true, h, true) | _ => none) else callW P H f args h
theorem cfA_ne {P : Program} {H : FuncId → Draws} {A f : FuncId} (hf : f ≠ A) : cfA P H A f = callW P H f := by funext args h; unfold cfA; rw [if_neg hf]
theorem cfA_at {P : Program} {H : FuncId → Draws} {A : FuncId} {h : Heap} : cfA P H A A [] h = some (.bool true, h, true) := by unfold cfA; rw [if_pos rfl]
theorem cfA_inv {P : Program} {H : FuncId → Draws} {A f : FuncId} {args : List Value} {h h' : Heap} {v : Value} {q : Bool} (hr : cfA P H A f args h = some (v, h', q)) :
    (f = A ∧ args = [] ∧ v = .bool true ∧ h' = h ∧ q = true) ∨ callW P H f args h = some (v, h', q) := by
  unfold cfA at hr
  by_cases hf : f = A
  · rw [if_pos hf] at hr
    cases args with
    | nil => cases hr; exact .inl ⟨hf, rfl, rfl, rfl, rfl⟩
    | cons a r => cases hr
  · rw [if_neg hf] at hr; exact .inr hr
theorem cfA_wf {P : Program} {H : FuncId → Draws} {A : FuncId} : CfWf (cfA P H A) := fun f args h v h' q hr hw hs => by
  rcases cfA_inv hr with ⟨_, _, rfl, rfl, rfl⟩ | hr
  · exact ⟨hw, Sc.flat _ rfl, AEvo.refl hw, fun _ _ _ => rfl⟩
  · exact callW_wf f args h v h' q hr hw hs
theorem get_heap0 (b : Nat) : heap0.get b = none := Tr.get_leaf b
theorem none_heap0 {p : Prop} {b : Nat} {x : Blk} (h : heap0.get b = some x) : p := by rw [get_heap0] at h; cases h
theorem HWf.zero : HWf heap0 := ⟨fun b x h => none_heap0 h, fun b x h => none_heap0 h⟩
theorem cfA_ok {P : Program} {H : FuncId → Draws} {A : FuncId} {B : Nat} {w0 : World} (hk : okProg P H = true) {n : Nat} (hrun : call P H n A [] heap0 = some (.bool true, heap0, true)) : CfOk P (cfA P H A) B w0 := fun f args h v h' q hr m w args' hw hs hh hl => by
  rcases cfA_inv hr with ⟨rfl, rfl, rfl, rfl, rfl⟩ | hr
  · have hargs : args' = [] := by have := hl.1; simpa using this
    subst hargs
    have k := callW_ok (B := w.heap.size) (w0 := w) hk f [] heap0 (.bool true) heap0 true (callW_iff.2 ⟨n, hrun⟩) m w [] HWf.zero (fun v hv => by cases hv)
      ⟨Below.refl _ _, Nat.le_refl _, fun b x hb => none_heap0 hb, fun b b' x x' hb => none_heap0 hb⟩ hl
    refine k.mono fun en w' ⟨v', m', e1, e2, e3, e4⟩ => ?_
    have hb := e3.below
    have hlt : ∀ b x, h'.get b = some x → w'.heap[(m b).blk]? = w.heap[(m b).blk]? := fun b x hx => hb.block _ (hh.blk b x hx).lt
    refine ⟨v', m, e1, ?_, ⟨hh.below.trans (hb.mono hh.base), Nat.le_trans hh.base hb.size, fun b x hx => (hh.blk b x hx).world (hlt b x hx), hh.inj⟩, ⟨fun _ _ => rfl, hb.size, fun k hk' _ => hb.block k hk', fun b x hx _ hn => absurd (hw.lt b x hx) hn, fun b x _ hx => ⟨x, hx, rfl⟩⟩⟩
    have := e2.of_flat (by rfl)
    subst this
    exact .flat rfl
  · exact callW_ok hk f args h v h' q hr m w args' hw hs hh hl
/-- a law: its code walked on the abstract machine gives its call -/
theorem law_calls {P : Program} {H : FuncId → Draws} {B : Nat} {w0 : World} {cf : CallF} (hk : okProg P H = true) (hcw : CfWf cf) (hcf : CfOk P cf B w0) {f : FuncId} {fn : Func} {c : Code} (hfn : P.funcs[f]? = some fn) (hbody : fn.body = some c)
    {args args' : List Value} {m : Mp} {w : World} {h : Heap} (hw : HWf h) (ha : ∀ v ∈ args, Sc (· < h.next) v) (hheap : HRel B w0 m h.get w) (hrel : LRel m args args')
    (hwp : Wp P cf (H f) c (doneQ P fn.results.toList (fun vs _ => vs = [.bool true])) (Env.ofList args 0) (h.low h.next)) :
    Calls P f args'.toArray w fun en w' => en = .returned (.bool true) ∧ Below B w0 w' := by
  obtain ⟨x, e1, h1, k1, k2⟩ := outQ_iff.1 hwp
  obtain ⟨n, k1⟩ := execW_iff.1 k1
  have hof := okProg_at hk hfn
  unfold okFunc at hof
  rw [hbody] at hof
  simp only [Bool.and_eq_true] at hof
  refine calls_of_wp hfn hbody ?_
  refine (exec_loop_sim (okProg_mix hk) hcw hcf n).1 c k1 hof.1 m _ w _ ⟨hheap, args_rel hrel _, hw.low _, ofList_sc ha⟩ (by simp; omega) ?_
  intro m1 a1 w1 hs1 ev1 hd1 hz1
  have hn1 : fn.ntmps ≤ a1.tmps.size := by rw [hz1]; simp; omega
  have k3 : (x = .normal ∨ x = .ret) ∧ resultsA P e1 h1 fn.results.toList = some [.bool true] := by
    cases x with
    | normal => obtain ⟨vs, q1, rfl⟩ := k2; exact ⟨.inl rfl, q1⟩
    | ret => obtain ⟨vs, q1, rfl⟩ := k2; exact ⟨.inr rfl, q1⟩
    | exit id => exact k2.elim
  obtain ⟨vs', r1, r2⟩ := results_run hs1 hn1 hof.2 k3.2
  have hvs : packR vs' = .bool true := by
    have := r2.1
    match vs', this with
    | [v'], _ => exact (r2.2 0 _ v' rfl rfl).of_flat rfl
  have goal : a1.defers = [] ∧ ∃ v0, (results fn a1.tmps).run P w1 = .ok v0 w1 ∧ Ending.returned v0 = .returned (.bool true) ∧ Below B w0 w1 :=
    ⟨hd1, _, r1, by rw [hvs], hs1.heap.below⟩
  rcases k3.1 with rfl | rfl <;> exact goal
end
end Go.Am
