/- SkewLines holds: gates that a line passes have lines, its slope and its value lie within the bounds, and exact gates determine them; of other inputs the law asks nothing but its closed examples. -/
import Derived.Test.YtlblocieleildaaSk41
import Derived.Test.YtlblocieleildaaTp3
set_option linter.unusedSimpArgs false
set_option linter.unusedVariables false
set_option maxRecDepth 100000
set_option maxHeartbeats 4000000
namespace Go.Proofs.Ytlblocieleildaa
open Go.Am Go.Plain Go.ChangeShapes Go.WideShapes Go.ChangeAt Go.RowKit

theorem skewLines_lifted (os : Os) (started : os.Started) (H : Type) (enc : TypeId × Value → H) :
    ReturnsInHanded {} Try.checked os 6 .any (Rows.skewLinesSpec.pre6 enc Try.prog Try.f6 Rows.skewLinesRow.domain false) (Rows.skewLinesSpec.post enc Try.prog Try.f6 false true false false) := by
  refine returnsInHanded_of_change (C := Try.checked) Try.own started (by kernel_rfl) Try.func6
    (ChangeSpec.witness6 (enc := enc) (C := Try.checked) false ⟨#[], #[.agg #[.int .i64 0, .int .i64 0, .slice none 0 0, .slice none 0 0, .slice none 0 0], .int .i64 0], []⟩ 8 (by kernel_rfl) (by kernel_rfl) (by kernel_rfl) (by kernel_rfl)) ?_
  intro W base args ds gs before hval0 hW hcnd _
  have hval : ∀ (j : Nat) t v, Try.f6.params[j]? = some t → args[j]? = some v → Value.okWide Try.prog W .any base t v := hval0
  have hW' := hW
  obtain ⟨p, q, hA0, hV, rfl, hfz, hnd⟩ := hW
  have hA : DataW.TrodAll enc Try.prog W 0 (fun _ => true) true Try.f6.params.toList args.toList ds p := hA0
  rw [Try.params6] at hA hval
  obtain ⟨v0, v1, d0, d1, p0, p1, rfl, rfl, rfl, h0, h1⟩ := trodAll_two hA
  obtain ⟨rfl, rfl⟩ := trodVars_none hV
  obtain ⟨x, rfl, rfl, rfl, wx⟩ := open_int Try.underlying3 (hval 1 3 v1 rfl rfl) h1
  simp only [List.append_nil] at hW'
  have hlt : ∀ x ∈ p0, x.block < W.heap.size := fun x hx => by simpa using hW'.lt x (by simpa using hx)
  obtain ⟨A, B, xs, bs, us, ax, ab, aa, cx, cb, ca, h, m, G⟩ := open_line (hval 0 37 v0 rfl rfl) h0
  obtain ⟨code, hbody, hwp⟩ := w6 A B xs bs us ax ab aa cx cb ca x h G.ix G.ib G.iu
  have hc := law_calls (args' := [v0, .int .i64 x]) sk_ok cfT_wf cfT_ok Try.func6 hbody G.wf (fun v hv => by
    rcases List.mem_cons.1 hv with rfl | hv
    · exact G.sc
    · rw [List.mem_singleton.1 hv]; exact Sc.flat _ rfl) G.rel (LRel.cons G.val (LRel.cons (.flat rfl) LRel.nil)) hwp
  refine hc.mono fun e W' ⟨he, bel⟩ => ?_
  subst he
  refine ⟨_, rfl, [d0, .lit (.int .i64 x)], [], p0, [], p0, [], by simpa using hW', ?_, ?_, rfl, bel.frame _, fun h => by cases h⟩
  · exact trodAll_mk1 (shut_bool Try.underlying4 _)
  · have := trodAll_mk2 (Below.trod Try.laidOut (by kernel_rfl) (of_decide_eq_true (by kernel_rfl)) h0 bel hlt) (shut_int (w := W') (base := 0) (spare := fun b => decide (b < W.heap.size)) (held := true) (enc := enc) Try.underlying3 wx)
    simp only [List.append_nil] at this
    exact this
theorem skewLines_holds : Rows.SkewLinesSaid :=
  OpenClaim.holds_of_wide 6 Try.f6 rfl rfl rfl rfl rfl rfl rfl ⟨rfl, rfl, rfl, rfl, rfl⟩ rfl rfl rfl rfl rfl (by kernel_rfl) Try.func6 (by kernel_rfl)
    (of_decide_eq_true (by kernel_rfl)) (by unfold Func.isWrapper; first | (rw [if_pos (by decide +kernel)]; kernel_rfl) | (rw [if_neg (by decide +kernel)]; exact ⟨rfl, rfl⟩))
    (fun os started H enc _ => skewLines_lifted os started H enc)
#print axioms skewLines_holds
end Go.Proofs.Ytlblocieleildaa
