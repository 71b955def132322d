/- SkewTight holds: the bounds of the slopes are those of every two gates and are reached, for valid lists of 2 to 24 gates; of other lists the law asks nothing but its closed examples. -/
import Derived.Test.YtlblocieleildaaSk24
import Derived.Test.YtlblocieleildaaTp2
set_option linter.unusedSimpArgs false
set_option linter.unusedVariables false
set_option maxRecDepth 100000
namespace Go.Proofs.Ytlblocieleildaa
open Go.Am Go.Plain Go.ChangeShapes Go.WideShapes Go.ChangeAt Go.RowKit

theorem skewTight_lifted (os : Os) (started : os.Started) (H : Type) (enc : TypeId × Value → H) :
    ReturnsInHanded {} Try.checked os 7 .any (Rows.skewTightSpec.pre6 enc Try.prog Try.f7 Rows.skewTightRow.domain false) (Rows.skewTightSpec.post enc Try.prog Try.f7 false true false false) := by
  refine returnsInHanded_of_change (C := Try.checked) Try.own started (by kernel_rfl) Try.func7
    (ChangeSpec.witness6 (enc := enc) (C := Try.checked) false ⟨#[], #[.slice none 0 0], []⟩ 8 (by kernel_rfl) (by kernel_rfl) (by kernel_rfl) (by kernel_rfl)) ?_
  intro W base args ds gs before hval0 hW hcnd _
  have hval : ∀ (j : Nat) t v, Try.f7.params[j]? = some t → args[j]? = some v → Value.okWide Try.prog W .any base t v := hval0
  have hW' := hW
  obtain ⟨p, q, hA0, hV, rfl, hfz, hnd⟩ := hW
  have hA : DataW.TrodAll enc Try.prog W 0 (fun _ => true) true Try.f7.params.toList args.toList ds p := hA0
  rw [Try.params7] at hA hval
  obtain ⟨v0, d0, rfl, rfl, h0⟩ := trodAll_one hA
  obtain ⟨rfl, rfl⟩ := trodVars_none hV
  simp only [List.append_nil] at hW'
  have hlt : ∀ x ∈ p, x.block < W.heap.size := fun x hx => by simpa using hW'.lt x hx
  obtain ⟨l, a, c, h, m, G⟩ := open_gates (hval 0 22 v0 rfl rfl) h0
  obtain ⟨code, hbody, hwp⟩ := w7 l a c h G.ga
  have hc := law_calls (args := [.slice a l.length c]) (args' := [v0]) sk_ok cfT_wf cfT_ok Try.func7 hbody G.wf (fun v hv => by rw [List.mem_singleton.1 hv]; exact G.sc) G.rel (LRel.cons G.val LRel.nil) hwp
  refine hc.mono fun e W' ⟨he, bel⟩ => ?_
  subst he
  refine ⟨_, rfl, [d0], [], p, [], p, [], hW', ?_, ?_, rfl, bel.frame _, fun h => by cases h⟩
  · exact trodAll_mk1 (shut_bool Try.underlying4 _)
  · exact trodAll_mk1 (Below.trod Try.laidOut (by kernel_rfl) (of_decide_eq_true (by kernel_rfl)) h0 bel hlt)
theorem skewTight_holds : Rows.SkewTightSaid :=
  OpenClaim.holds_of_wide 7 Try.f7 rfl rfl rfl rfl rfl rfl rfl ⟨rfl, rfl, rfl, rfl, rfl⟩ rfl rfl rfl rfl rfl (by kernel_rfl) Try.func7 (by kernel_rfl)
    (of_decide_eq_true (by kernel_rfl)) (by unfold Func.isWrapper; first | (rw [if_pos (by decide +kernel)]; kernel_rfl) | (rw [if_neg (by decide +kernel)]; exact ⟨rfl, rfl⟩))
    (fun os started H enc _ => skewTight_lifted os started H enc)
#print axioms skewTight_holds
end Go.Proofs.Ytlblocieleildaa
