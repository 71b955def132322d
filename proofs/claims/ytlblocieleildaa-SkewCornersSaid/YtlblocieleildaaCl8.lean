/- SkewCorners holds: the gates of the corners alone have the bounds of slopes of all gates, for valid lists of at most 24 gates; of other lists the law asks nothing but its closed examples. -/
import Derived.Test.YtlblocieleildaaSk26
import Derived.Test.YtlblocieleildaaTp2
set_option linter.unusedSimpArgs false
set_option linter.unusedVariables false
set_option maxRecDepth 100000
namespace Go.Proofs.Ytlblocieleildaa
open Go.Am Go.Plain Go.ChangeShapes Go.WideShapes Go.ChangeAt Go.RowKit

theorem w8 (l : List Gt) (a : Option Addr) (c : Nat) (h : Heap) (hg : GA h l a) : ∃ code, Try.f8.body = some code ∧ Wp Try.prog cfT (SkH 8) code (doneQ Try.prog Try.f8.results.toList (fun vs _ => vs = [.bool true])) (Env.ofList [.slice a l.length c] 0) (h.low h.next) := by
  by_cases hl : l.length ≤ 24
  · by_cases hz : checkZ l = 0
    · exact w8_ok l a c h hg ((checkZ_ok l).1 hz) hl
    · refine ⟨_, rfl, ?_⟩
      have t10 : cfT 10 = callW Try.prog SkH 10 := cfT_ne (by decide)
      have t14 : cfT 14 = callW Try.prog SkH 14 := cfT_ne (by decide)
      have hf : ((l.length : Int) ≤ 24) = True := eq_true (by omega)
      have q14 := c14 l a c (h.low h.next) (hg.ext (Ext.low h)) hl
      simp only [go_sem, ↓forkQ_true, ↓forkQ_false, ↓guardQ_some, ↓resQ_val, ↓resQ_unit, ↓resQ_enter, ↓retQ_some, ↓resFQ_val, ↓resFQ_unit, ↓resFQ_enter, ↓retFQ_some, Nat.reduceEqDiff, reduceIte, Nat.reduceAdd, Nat.reduceMul, Nat.reduceSub, reduceCtorEq, Nat.reduceLeDiff, guardOf, t10, t14, c10, hf, q14, hz, cfT_at, doneQ_ret]
      exact ⟨_, rfl, rfl⟩
  · refine ⟨_, rfl, ?_⟩
    have t10 : cfT 10 = callW Try.prog SkH 10 := cfT_ne (by decide)
    have hf : ((l.length : Int) ≤ 24) = False := eq_false (by omega)
    simp only [go_sem, ↓forkQ_true, ↓forkQ_false, ↓guardQ_some, ↓resQ_val, ↓resQ_unit, ↓resQ_enter, ↓retQ_some, ↓resFQ_val, ↓resFQ_unit, ↓resFQ_enter, ↓retFQ_some, Nat.reduceEqDiff, reduceIte, Nat.reduceAdd, Nat.reduceMul, Nat.reduceSub, reduceCtorEq, Nat.reduceLeDiff, guardOf, t10, c10, hf, cfT_at, doneQ_ret]
    exact ⟨_, rfl, rfl⟩
theorem skewCorners_lifted (os : Os) (started : os.Started) (H : Type) (enc : TypeId × Value → H) :
    ReturnsInHanded {} Try.checked os 8 .any (Rows.skewCornersSpec.pre6 enc Try.prog Try.f8 Rows.skewCornersRow.domain false) (Rows.skewCornersSpec.post enc Try.prog Try.f8 false true false false) := by
  refine returnsInHanded_of_change (C := Try.checked) Try.own started (by kernel_rfl) Try.func8
    (ChangeSpec.witness6 (enc := enc) (C := Try.checked) false ⟨#[], #[.slice none 0 0], []⟩ 8 (by kernel_rfl) (by kernel_rfl) (by kernel_rfl) (by kernel_rfl)) ?_
  intro W base args ds gs before hval0 hW hcnd _
  have hval : ∀ (j : Nat) t v, Try.f8.params[j]? = some t → args[j]? = some v → Value.okWide Try.prog W .any base t v := hval0
  have hW' := hW
  obtain ⟨p, q, hA0, hV, rfl, hfz, hnd⟩ := hW
  have hA : DataW.TrodAll enc Try.prog W 0 (fun _ => true) true Try.f8.params.toList args.toList ds p := hA0
  rw [Try.params8] at hA hval
  obtain ⟨v0, d0, rfl, rfl, h0⟩ := trodAll_one hA
  obtain ⟨rfl, rfl⟩ := trodVars_none hV
  simp only [List.append_nil] at hW'
  have hlt : ∀ x ∈ p, x.block < W.heap.size := fun x hx => by simpa using hW'.lt x hx
  obtain ⟨l, a, c, h, m, G⟩ := open_gates (hval 0 22 v0 rfl rfl) h0
  obtain ⟨code, hbody, hwp⟩ := w8 l a c h G.ga
  have hc := law_calls (args := [.slice a l.length c]) (args' := [v0]) sk_ok cfT_wf cfT_ok Try.func8 hbody G.wf (fun v hv => by rw [List.mem_singleton.1 hv]; exact G.sc) G.rel (LRel.cons G.val LRel.nil) hwp
  refine hc.mono fun e W' ⟨he, bel⟩ => ?_
  subst he
  refine ⟨_, rfl, [d0], [], p, [], p, [], hW', ?_, ?_, rfl, bel.frame _, fun h => by cases h⟩
  · exact trodAll_mk1 (shut_bool Try.underlying4 _)
  · exact trodAll_mk1 (Below.trod Try.laidOut (by kernel_rfl) (of_decide_eq_true (by kernel_rfl)) h0 bel hlt)
theorem skewCorners_holds : Rows.SkewCornersSaid :=
  OpenClaim.holds_of_wide 8 Try.f8 rfl rfl rfl rfl rfl rfl rfl ⟨rfl, rfl, rfl, rfl, rfl⟩ rfl rfl rfl rfl rfl (by kernel_rfl) Try.func8 (by kernel_rfl)
    (of_decide_eq_true (by kernel_rfl)) (by unfold Func.isWrapper; first | (rw [if_pos (by decide +kernel)]; kernel_rfl) | (rw [if_neg (by decide +kernel)]; exact ⟨rfl, rfl⟩))
    (fun os started H enc _ => skewCorners_lifted os started H enc)
#print axioms skewCorners_holds
end Go.Proofs.Ytlblocieleildaa
