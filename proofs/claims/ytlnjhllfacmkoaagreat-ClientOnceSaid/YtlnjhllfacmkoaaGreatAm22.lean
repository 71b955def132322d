/- Leaving a call, and calls whole, in both machines. -/
import Derived.Test.YtlnjhllfacmkoaaGreatAm21
set_option linter.unusedVariables false
set_option linter.unusedSimpArgs false
set_option linter.unusedSectionVars false
namespace Go.Am
open Go.RowKit
section
variable {B : Nat} {w0 w w1 : World} {m m1 : Mp} {h h1 : Heap}
theorem RenAll.rel {m2 : Mp} {base b b' : Nat} (hm : ∀ c, c < base → m2 c = m1 c) (hb : m2 b' = m1 b) {l l1 : List Value} (hr : RenAll base b b' l l1) : ∀ {l' : List Value}, LRel m1 l l' → LRel m2 l1 l' := by
  induction hr with
  | nil =>
    intro l' h
    have : l' = [] := by have := h.1; simpa using this
    subst this; exact .nil
  | @cons v v1 r r1 hv hr ih =>
    intro l' hl
    obtain ⟨hlen, hget⟩ := hl
    cases l' with
    | nil => simp at hlen
    | cons v' r' =>
      have hvr := hget 0 v v' rfl rfl
      refine LRel.cons ?_ (ih ⟨by simpa using hlen, fun i u u' hu hu' => hget (i + 1) u u' (by simpa using hu) (by simpa using hu')⟩)
      rcases ren1_inv hv with ⟨k1, rfl⟩ | ⟨c, o, rfl, ⟨k2, rfl⟩ | ⟨rfl, rfl⟩⟩ | ⟨c, o, n, k, rfl, ⟨k2, rfl⟩ | ⟨rfl, rfl⟩⟩
      · have := hvr.of_flat k1; subst this; exact .flat k1
      · exact hvr.moved (p := (· < base)) hm (.ptr _ _ k2)
      · have := hvr.asPtr rfl; subst this
        rw [← hb]; exact .ptr b' o
      · exact hvr.moved (p := (· < base)) hm (.sl _ _ _ _ k2)
      · obtain ⟨c', e1, e2⟩ := hvr.sl_inv
        subst e1
        rw [← hb] at e2 ⊢
        exact .sl b' o n k c' e2
theorem LRel.flat {m2 : Mp} {l l' : List Value} (h : LRel m1 l l') (hf : ∀ v ∈ l, Am.flat v = true) : LRel m2 l l' :=
  ⟨h.1, fun i v v' hi hi' => by
    have hv := hf v (List.mem_of_getElem? hi)
    have := (h.2 i v v' hi hi').of_flat hv
    subst this; exact .flat hv⟩
theorem LRel.flatCells {m2 : Mp} {l l' : List Value} (h : LRel m1 l l') (hf : ∀ v ∈ l, flatCell v = true) : LRel m2 l l' := by
  have := h.of_eq hf
  subst this
  exact ⟨rfl, fun i v v' hi hi' => by rw [hi] at hi'; cases hi'; exact .same v (hf v (List.mem_of_getElem? hi))⟩
theorem left_sim {vs vs' : List Value} {v : Value} {h' : Heap} {q : Bool} (hl : Left h h1 vs v h' q) (hw : HWf h) (hw1 : HWf h1) (hev : AEvo (h.low h.next) h1) (hc : CEvo (· < h.next) m m1 h.get h1.get w w1) (hr : HRel B w0 m1 h1.get w1) (hv : LRel m1 vs vs') :
    ∃ m2, VRel m2 v (packR vs') ∧ HRel B w0 m2 h'.get w1 ∧ CEvo (· < h.next) m m2 h.get h'.get w w1 := by
  -- nothing old was written: the heap of before, in the world of after
  have back : h1.wr = h.next → HRel B w0 m1 h.get w1 ∧ CEvo (· < h.next) m m1 h.get h.get w w1 := by
    intro hwr
    have hg : ∀ b x, h.get b = some x → h1.get b = some x := fun b x hb => (hev.wr b (by rw [hwr]; exact hw.lt b x hb) (hw.lt b x hb)).trans hb
    exact ⟨hr.less hg, ⟨hc.keep, hc.size, hc.far, fun b x hb _ hn => absurd (hw.lt b x hb) hn, fun b x _ hb => ⟨x, hb, rfl⟩⟩⟩
  cases hl with
  | flat hwr hf =>
    obtain ⟨k1, k2⟩ := back hwr
    exact ⟨m1, hv.pack, k1, k2⟩
  | old l1 hwr hn hren =>
    obtain ⟨k1, k2⟩ := back hwr
    exact ⟨m1, (RenAll.rel (m2 := m1) (fun _ _ => rfl) rfl hren hv).pack, k1, k2⟩
  | one l1 hwr b blk hb hge hfl hren =>
    obtain ⟨k1, k2⟩ := back hwr
    have hro := hev.new b blk hge hb
    have hfc : ∀ v ∈ blk.cells, flatCell v = true := (hw1.ok b blk hb).fl hfl
    generalize hm2 : (fun k => if k = h.next then m1 b else m1 k) = m2
    have e1 : m2 h.next = m1 b := by subst hm2; simp
    have e2 : ∀ k, k ≠ h.next → m2 k = m1 k := fun k hk => by subst hm2; simp only [if_neg hk]
    have e3 : ∀ k, k < h.next → m2 k = m1 k := fun k hk => e2 k (Nat.ne_of_lt hk)
    have hg : ∀ k x, h.get k = some x → h1.get k = some x := fun k x hk => (hev.wr k (by rw [hwr]; exact hw.lt k x hk) (hw.lt k x hk)).trans hk
    have split : ∀ {k x}, (h.alloc blk).get k = some x → (k = h.next ∧ x = blk) ∨ (k ≠ h.next ∧ h.get k = some x) := by
      intro k x hk
      by_cases hkn : k = h.next
      · subst hkn; rw [Heap.get_alloc_same] at hk; cases hk; exact .inl ⟨rfl, rfl⟩
      · rw [Heap.get_alloc_ne h blk hkn] at hk; exact .inr ⟨hkn, hk⟩
    refine ⟨m2, (RenAll.rel e3 e1 hren hv).pack, ⟨hr.below, hr.base, fun k x hk => ?_, fun k k' x x' hk hk' hx hx' heq => ?_⟩, ⟨fun k hk => (e3 k hk).trans (hc.keep k hk), hc.size, hc.far, fun k x hk hx hn => ?_, fun k x hp hk => ?_⟩⟩
    · rcases split hk with ⟨rfl, rfl⟩ | ⟨hkn, hk⟩
      · obtain ⟨c, t, fr, q1, q2, q3, q4, q5⟩ := hr.blk b x hb
        refine ⟨c, t, fr, ?_, ?_, ?_, ?_, ?_⟩
        · rw [e1]; exact q1
        · rw [e1]; exact q2
        · rw [e1]; exact q3
        · rw [e1]; exact q4.flatCells hfc
        · rw [e1]; exact q5
      · exact (k1.blk k x hk).moved (p := (· < h.next)) e3 (e2 k hkn) (hw.ok k x hk).sc
    · rcases split hk with ⟨rfl, rfl⟩ | ⟨hkn, hk1⟩ <;> rcases split hk' with ⟨rfl, e4⟩ | ⟨hkn', hk1'⟩
      · rfl
      · rw [e1, e2 k' hkn'] at heq
        have := hr.inj b k' _ x' hb (hg k' x' hk1') hx hx' heq
        have := hw.lt k' x' hk1'
        omega
      · rw [e1, e2 k hkn] at heq
        have := hr.inj b k blk x hb (hg k x hk1) hro hx heq.symm
        have := hw.lt k x hk1
        omega
      · rw [e2 k hkn, e2 k' hkn'] at heq
        exact k1.inj k k' x x' hk1 hk1' hx hx' heq
    · rcases split hk with ⟨rfl, rfl⟩ | ⟨hkn, hk⟩
      · rw [e1]; exact hc.fresh b x hb hx (by omega)
      · exact absurd (hw.lt k x hk) hn
    · rcases split hk with ⟨rfl, rfl⟩ | ⟨hkn, hk⟩
      · exact absurd hp (Nat.lt_irrefl _)
      · exact ⟨x, hk, rfl⟩
  | all hwr => exact ⟨m1, hv.pack, hr, hc⟩
  | any n k1 k2 => exact ⟨m1, hv.pack, hr, hc⟩
end
section
variable {P : Program} {H : FuncId → Draws} {B : Nat} {w0 : World}
theorem okProg_at (hk : okProg P H = true) {f : FuncId} {fn : Func} (hf : P.funcs[f]? = some fn) : okFunc (H f) fn = true := by
  unfold okProg at hk
  simp only [Bool.and_eq_true] at hk
  have hlt : f < P.funcs.size := (Array.getElem?_eq_some_iff.1 hf).1
  have := List.all_eq_true.1 hk.2 f (by simpa using hlt)
  rw [hf] at this
  exact this
theorem okProg_mix (hk : okProg P H = true) : P.follows .mixedOrders = true := by
  unfold okProg at hk
  simp only [Bool.and_eq_true] at hk
  exact hk.1
theorem args_rel {m : Mp} {args args' : List Value} (h : LRel m args args') (n : Nat) : ERel m (Env.ofList args 0) { tmps := args'.toArray ++ Array.replicate n undef, defers := [] } := by
  intro t ht
  rw [getD_ofList, if_pos (Nat.zero_le _), Nat.sub_zero, List.getD_eq_getElem?_getD, Array.getD_eq_getD_getElem?]
  by_cases hlt : t < args.length
  · have hlt' : t < args'.length := by rw [h.1]; exact hlt
    have e1 : (args'.toArray ++ Array.replicate n undef)[t]? = some args'[t] := by
      rw [Array.getElem?_append_left (by simpa using hlt')]
      simp [hlt']
    rw [e1, List.getElem?_eq_getElem hlt]
    exact h.2 t _ _ (List.getElem?_eq_getElem hlt) (List.getElem?_eq_getElem hlt')
  · have e1 : (args'.toArray ++ Array.replicate n undef).getD t undef = undef := by
      rw [Array.getD_eq_getD_getElem?, Array.getElem?_append_right (by simp [h.1]; omega), Array.getElem?_replicate]
      split <;> rfl
    rw [← Array.getD_eq_getD_getElem?, e1, List.getElem?_eq_none (by omega)]
    exact .tuple _ _ rfl fun i v v' hh => by simp at hh
theorem call_ok (hk : okProg P H = true) : ∀ n, CfOk P (call P H n) B w0
  | 0 => fun f args h v h' q hr => by cases hr
  | n + 1 => fun f args h v h' q hr m w args' hw ha hheap hrel => by
    obtain ⟨fn, c, hfn, hbody, hd⟩ := call_inv hr
    obtain ⟨x, e1, h1, vs, k1, k2, k3, k4⟩ := doneK_inv hd
    have hof := okProg_at hk hfn
    unfold okFunc at hof
    rw [hbody] at hof
    simp only [Bool.and_eq_true] at hof
    have z := exec_wf (call_wf n) n c k1 (hw.low _) (ofList_sc ha)
    refine calls_of_wp hfn hbody ?_
    refine (exec_loop_sim (okProg_mix hk) (call_wf n) (call_ok hk n) n).1 c k1 hof.1 m _ w _ ⟨hheap, args_rel hrel _, hw.low _, ofList_sc ha⟩ (by simp; omega) ?_
    intro m1 a1 w1 hs1 ev1 hd1 hz1
    have hn1 : fn.ntmps ≤ a1.tmps.size := by rw [hz1]; simp; omega
    obtain ⟨vs', r1, r2⟩ := results_run hs1 hn1 hof.2 k3
    obtain ⟨m2, j1, j2, j3⟩ := left_sim k4 hw z.wf z.evo ev1.c hs1.heap r2
    have goal : a1.defers = [] ∧ ∃ v0, (results fn a1.tmps).run P w1 = .ok v0 w1 ∧ ∃ v' m', Ending.returned v0 = .returned v' ∧ VRel m' v v' ∧ HRel B w0 m' h'.get w1 ∧ CEvo (· < h.next) m m' h.get h'.get w w1 :=
      ⟨hd1, _, r1, _, m2, rfl, j1, j2, j3⟩
    rcases k2 with rfl | rfl <;> exact goal
end
end Go.Am
