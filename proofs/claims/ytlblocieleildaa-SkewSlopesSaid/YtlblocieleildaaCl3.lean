/- SkewSlopes holds: whether gates are valid, whether a line passes them, and the bounds of the slopes are the specified ones, for lists of at most 24 gates; of longer ones the law asks nothing but its closed examples. -/
import Derived.Test.YtlblocieleildaaSk7
import Derived.Test.YtlblocieleildaaSk21
import Derived.Test.YtlblocieleildaaTp2
set_option linter.unusedSimpArgs false
set_option linter.unusedVariables false
set_option maxRecDepth 100000
namespace Go.Proofs.Ytlblocieleildaa
open Go.Am Go.Plain Go.ChangeShapes Go.WideShapes Go.ChangeAt Go.RowKit

theorem w3 (l : List Gt) (a : Option Addr) (c : Nat) (h : Heap) (hg : GA h l a) : ∃ code, Try.f3.body = some code ∧ Wp Try.prog cfT (SkH 3) code (doneQ Try.prog Try.f3.results.toList (fun vs _ => vs = [.bool true])) (Env.ofList [.slice a l.length c] 0) (h.low h.next) := by
  refine ⟨_, rfl, ?_⟩
  have t10 : cfT 10 = callW Try.prog SkH 10 := cfT_ne (by decide)
  have t12 : cfT 12 = callW Try.prog SkH 12 := cfT_ne (by decide)
  have t13 : cfT 13 = callW Try.prog SkH 13 := cfT_ne (by decide)
  have t14 : cfT 14 = callW Try.prog SkH 14 := cfT_ne (by decide)
  have t15 : cfT 15 = callW Try.prog SkH 15 := cfT_ne (by decide)
  have t16 : cfT 16 = callW Try.prog SkH 16 := cfT_ne (by decide)
  have t17 : cfT 17 = callW Try.prog SkH 17 := cfT_ne (by decide)
  by_cases hl : l.length ≤ 24
  · have hf : ((l.length : Int) ≤ 24) = True := eq_true (by omega)
    have hn : ∀ H : Heap, GA H l a → callW Try.prog SkH 12 [.slice a l.length c] H = some (srv (slP l), H, true) ∧ callW Try.prog SkH 13 [.slice a l.length c] H = some (srv (slP l), H, true) ∧ callW Try.prog SkH 14 [.slice a l.length c] H = some (.int .i64 (checkZ l), H, true) ∧ callW Try.prog SkH 15 [.slice a l.length c] H = some (.int .i64 (checkZ l), H, true) ∧ callW Try.prog SkH 16 [.slice a l.length c] H = some (.bool (passP l), H, true) ∧ callW Try.prog SkH 17 [.slice a l.length c] H = some (.bool (passP l), H, true) := fun H hH =>
      ⟨c12 l a c H hH hl, by rw [sl_eq]; exact c13 l a c H hH hl, c14 l a c H hH hl, c15 l a c H hH hl, c16 l a c H hH hl, by rw [pass_eq]; exact c17 l a c H hH hl⟩
    generalize slP l = r at hn
    generalize passP l = b at hn
    generalize checkZ l = z at hn
    obtain ⟨n1, d1, n2, d2, e⟩ := r
    dsimp only [srv] at hn
    have e0 := Ext.low h
    have k0 := hn (h.low h.next) (hg.ext e0)
    have q12 := k0.1
    have e1 := (((e0.alloc ⟨[.int .i64 0, .int .i64 0], true, false, none⟩).alloc ⟨[.int .i64 0, .int .i64 0], true, false, none⟩).set (b := (h.low h.next).next) (Nat.le_refl _) ⟨[.int .i64 n1, .int .i64 d1], true, false, none⟩).set (b := (h.low h.next).next + 1) (Nat.le_succ _) ⟨[.int .i64 n2, .int .i64 d2], true, false, none⟩
    have q13 := (hn _ (hg.ext e1)).2.1
    have e2 := (((e1.alloc ⟨[.int .i64 0, .int .i64 0], true, false, none⟩).alloc ⟨[.int .i64 0, .int .i64 0], true, false, none⟩).set (b := h.next + 1 + 1) (by omega) ⟨[.int .i64 n1, .int .i64 d1], true, false, none⟩).set (b := h.next + 1 + 1 + 1) (by omega) ⟨[.int .i64 n2, .int .i64 d2], true, false, none⟩
    obtain ⟨_, _, q14, q15, q16, q17⟩ := hn _ (hg.ext e2)
    simp only [go_sem, ↓forkQ_true, ↓forkQ_false, ↓guardQ_some, ↓resQ_val, ↓resQ_unit, ↓resQ_enter, ↓retQ_some, ↓resFQ_val, ↓resFQ_unit, ↓resFQ_enter, ↓retFQ_some, Nat.reduceEqDiff, reduceIte, Nat.reduceAdd, Nat.reduceMul, Nat.reduceSub, reduceCtorEq, Nat.reduceLeDiff] at q13 q14 q15 q16 q17
    simp only [go_sem, ↓forkQ_true, ↓forkQ_false, ↓guardQ_some, ↓resQ_val, ↓resQ_unit, ↓resQ_enter, ↓retQ_some, ↓resFQ_val, ↓resFQ_unit, ↓resFQ_enter, ↓retFQ_some, Nat.reduceEqDiff, reduceIte, Nat.reduceAdd, Nat.reduceMul, Nat.reduceSub, reduceCtorEq, Nat.reduceLeDiff, guardOf, t10, t12, t13, t14, t15, t16, t17, c10, hf, q12, q13, q14, q15, q16, q17, cfT_at, doneQ_ret]
    exact ⟨_, rfl, rfl⟩
  · have hf : ((l.length : Int) ≤ 24) = False := eq_false (by omega)
    simp only [go_sem, ↓forkQ_true, ↓forkQ_false, ↓guardQ_some, ↓resQ_val, ↓resQ_unit, ↓resQ_enter, ↓retQ_some, ↓resFQ_val, ↓resFQ_unit, ↓resFQ_enter, ↓retFQ_some, Nat.reduceEqDiff, reduceIte, Nat.reduceAdd, Nat.reduceMul, Nat.reduceSub, reduceCtorEq, Nat.reduceLeDiff, guardOf, t10, c10, hf, cfT_at, doneQ_ret]
    exact ⟨_, rfl, rfl⟩
theorem skewSlopes_lifted (os : Os) (started : os.Started) (H : Type) (enc : TypeId × Value → H) :
    ReturnsInHanded {} Try.checked os 3 .any (Rows.skewSlopesSpec.pre6 enc Try.prog Try.f3 Rows.skewSlopesRow.domain false) (Rows.skewSlopesSpec.post enc Try.prog Try.f3 false true false false) := by
  refine returnsInHanded_of_change (C := Try.checked) Try.own started (by kernel_rfl) Try.func3
    (ChangeSpec.witness6 (enc := enc) (C := Try.checked) false ⟨#[], #[.slice none 0 0], []⟩ 8 (by kernel_rfl) (by kernel_rfl) (by kernel_rfl) (by kernel_rfl)) ?_
  intro W base args ds gs before hval0 hW hcnd _
  have hval : ∀ (j : Nat) t v, Try.f3.params[j]? = some t → args[j]? = some v → Value.okWide Try.prog W .any base t v := hval0
  have hW' := hW
  obtain ⟨p, q, hA0, hV, rfl, hfz, hnd⟩ := hW
  have hA : DataW.TrodAll enc Try.prog W 0 (fun _ => true) true Try.f3.params.toList args.toList ds p := hA0
  rw [Try.params3] at hA hval
  obtain ⟨v0, d0, rfl, rfl, h0⟩ := trodAll_one hA
  obtain ⟨rfl, rfl⟩ := trodVars_none hV
  simp only [List.append_nil] at hW'
  have hlt : ∀ x ∈ p, x.block < W.heap.size := fun x hx => by simpa using hW'.lt x hx
  obtain ⟨l, a, c, h, m, G⟩ := open_gates (hval 0 22 v0 rfl rfl) h0
  obtain ⟨code, hbody, hwp⟩ := w3 l a c h G.ga
  have hc := law_calls (args := [.slice a l.length c]) (args' := [v0]) sk_ok cfT_wf cfT_ok Try.func3 hbody G.wf (fun v hv => by rw [List.mem_singleton.1 hv]; exact G.sc) G.rel (LRel.cons G.val LRel.nil) hwp
  refine hc.mono fun e W' ⟨he, bel⟩ => ?_
  subst he
  refine ⟨_, rfl, [d0], [], p, [], p, [], hW', ?_, ?_, rfl, bel.frame _, fun h => by cases h⟩
  · exact trodAll_mk1 (shut_bool Try.underlying4 _)
  · exact trodAll_mk1 (Below.trod Try.laidOut (by kernel_rfl) (of_decide_eq_true (by kernel_rfl)) h0 bel hlt)
theorem skewSlopes_holds : Rows.SkewSlopesSaid :=
  OpenClaim.holds_of_wide 3 Try.f3 rfl rfl rfl rfl rfl rfl rfl ⟨rfl, rfl, rfl, rfl, rfl⟩ rfl rfl rfl rfl rfl (by kernel_rfl) Try.func3 (by kernel_rfl)
    (of_decide_eq_true (by kernel_rfl)) (by unfold Func.isWrapper; first | (rw [if_pos (by decide +kernel)]; kernel_rfl) | (rw [if_neg (by decide +kernel)]; exact ⟨rfl, rfl⟩))
    (fun os started H enc _ => skewSlopes_lifted os started H enc)
#print axioms skewSlopes_holds
end Go.Proofs.Ytlblocieleildaa
