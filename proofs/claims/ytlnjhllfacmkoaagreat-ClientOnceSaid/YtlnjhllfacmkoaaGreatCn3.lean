/- ClientOnce holds: a reply is accepted once, for every nonce and all durations; where a number is out of the law's limits, the law asks nothing but its closed example. -/
import Derived.Test.YtlnjhllfacmkoaaGreatCk5
import Derived.Test.YtlnjhllfacmkoaaGreatRows
import Derived.ProofKit
import Derived.Deep.Slices
import Derived.Carry
set_option linter.unusedSimpArgs false
set_option linter.unusedVariables false
set_option maxRecDepth 100000
set_option maxHeartbeats 4000000
namespace Go.Proofs.YtlnjhllfacmkoaaGreat
open Go.Am Go.ChangeShapes Go.WideShapes Go.ChangeAt Go.RowKit

theorem Tryz.own : ownKnob Tryz.prog.godebug = none := by kernel_rfl
theorem Tryz.laidOut : laidOutB Tryz.prog = true := by kernel_rfl
theorem once_all (nonce back more : Int) : ∃ s obs, lawX Tryz.prog ClH ClS 7 1000 3 [.int .u64 nonce, .int .i64 back, .int .i64 more] heap0 s = some ([.bool true], obs) ∧ AllOb Tryz.prog (cfA Tryz.prog ClH 7) obs := by
  by_cases h1 : nonce = 0
  · exact once_a nonce back more h1
  by_cases h2 : back < 0
  · exact once_b nonce back more h1 h2
  by_cases h3 : 1099511627776 < back
  · exact once_c nonce back more h1 (by omega) h3
  by_cases h4 : more < 0
  · exact once_d nonce back more h1 (by omega) (by omega) h4
  by_cases h5 : 1099511627776 < more
  · exact once_e nonce back more h1 (by omega) (by omega) (by omega) h5
  · exact once_m nonce back more h1 (by omega) (by omega) (by omega) (by omega)
theorem once_calls (nonce back more : Int) (W : World) : Calls Tryz.prog 3 #[.int .u64 nonce, .int .i64 back, .int .i64 more] W fun en w' => en = .returned (.bool true) ∧ Below W.heap.size W w' := by
  obtain ⟨s, obs, hrun, ho⟩ := once_all nonce back more
  exact law_script (args' := [.int .u64 nonce, .int .i64 back, .int .i64 more]) (m := fun _ => ⟨0, 0, 0, none⟩) ck_ok awake_run hrun ho HWf.zero (fun v hv => by
    simp only [List.mem_cons, List.not_mem_nil, or_false] at hv
    rcases hv with rfl | rfl | rfl <;> exact Sc.flat _ rfl) rel_heap0 (LRel.cons (.flat rfl) (LRel.cons (.flat rfl) (LRel.cons (.flat rfl) LRel.nil)))
theorem clientOnce_lifted (os : Os) (started : os.Started) (H : Type) (enc : TypeId × Value → H) :
    ReturnsInHanded {} Tryz.checked os 3 .any (Rows.clientOnceSpec.pre6 enc Tryz.prog Tryz.f3 Rows.clientOnceRow.domain false) (Rows.clientOnceSpec.post enc Tryz.prog Tryz.f3 false true false false) := by
  refine returnsInHanded_of_change (C := Tryz.checked) Tryz.own started (by kernel_rfl) Tryz.func3
    (ChangeSpec.witness6 (enc := enc) (C := Tryz.checked) false ⟨#[], #[.int .u64 0, .int .i64 0, .int .i64 0], []⟩ 8 (by kernel_rfl) (by kernel_rfl) (by kernel_rfl) (by kernel_rfl)) ?_
  intro W base args ds gs before hval0 hW hcnd _
  have hval : ∀ (j : Nat) t v, Tryz.f3.params[j]? = some t → args[j]? = some v → Value.okWide Tryz.prog W .any base t v := hval0
  have hW' := hW
  obtain ⟨p, q, hA0, hV, rfl, hfz, hnd⟩ := hW
  have hA : DataW.TrodAll enc Tryz.prog W 0 (fun _ => true) true Tryz.f3.params.toList args.toList ds p := hA0
  rw [Tryz.params3] at hA hval
  obtain ⟨v0, v1, v2, d0, d1, d2, p0, p1, p2, rfl, rfl, rfl, h0, h1, h2⟩ := trodAll_three hA
  obtain ⟨rfl, rfl⟩ := trodVars_none hV
  obtain ⟨a0, rfl, rfl, rfl, w0⟩ := open_int Tryz.underlying22 (hval 0 22 v0 rfl rfl) h0
  obtain ⟨a1, rfl, rfl, rfl, w1⟩ := open_int Tryz.underlying3 (hval 1 3 v1 rfl rfl) h1
  obtain ⟨a2, rfl, rfl, rfl, w2⟩ := open_int Tryz.underlying3 (hval 2 3 v2 rfl rfl) h2
  simp only [List.append_nil] at hW'
  refine (once_calls a0 a1 a2 W).mono fun e W' ⟨he, bel⟩ => ?_
  subst he
  refine ⟨_, rfl, [.lit (.int .u64 a0), .lit (.int .i64 a1), .lit (.int .i64 a2)], [], [], [], [], [], by simpa using hW', ?_, ?_, rfl, bel.frame _, fun h => by cases h⟩
  · exact trodAll_mk1 (shut_bool Tryz.underlying4 _)
  · have := trodAll_mk3 (shut_int (w := W') (base := 0) (spare := fun b => decide (b < W.heap.size)) (held := true) (enc := enc) Tryz.underlying22 w0) (shut_int (w := W') (base := 0) (spare := fun b => decide (b < W.heap.size)) (held := true) (enc := enc) Tryz.underlying3 w1) (shut_int (w := W') (base := 0) (spare := fun b => decide (b < W.heap.size)) (held := true) (enc := enc) Tryz.underlying3 w2)
    simp only [List.append_nil] at this
    exact this
theorem clientOnce_holds : Rows.ClientOnceSaid :=
  OpenClaim.holds_of_wide 3 Tryz.f3 rfl rfl rfl rfl rfl rfl rfl ⟨rfl, rfl, rfl, rfl, rfl⟩ rfl rfl rfl rfl rfl (by kernel_rfl) Tryz.func3 (by kernel_rfl)
    (of_decide_eq_true (by kernel_rfl)) (by unfold Func.isWrapper; first | (rw [if_pos (by decide +kernel)]; kernel_rfl) | (rw [if_neg (by decide +kernel)]; exact ⟨rfl, rfl⟩))
    (fun os started H enc _ => clientOnce_lifted os started H enc)
#print axioms clientOnce_holds
end Go.Proofs.YtlnjhllfacmkoaaGreat
