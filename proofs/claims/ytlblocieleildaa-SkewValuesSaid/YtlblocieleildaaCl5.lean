/- SkewValues holds: the bounds of the value at a time, or the error, are the specified ones, for lists of at most 24 gates; of longer ones the law asks nothing but its closed examples. -/
import Derived.Test.YtlblocieleildaaSk7
import Derived.Test.YtlblocieleildaaSk35
import Derived.Test.YtlblocieleildaaTp2
set_option linter.unusedSimpArgs false
set_option linter.unusedVariables false
set_option maxRecDepth 100000
namespace Go.Proofs.Ytlblocieleildaa
open Go.Am Go.Plain Go.ChangeShapes Go.WideShapes Go.ChangeAt Go.RowKit

theorem w5 (l : List Gt) (a : Option Addr) (c : Nat) (x : Int) (h : Heap) (hg : GA h l a) : ∃ code, Try.f5.body = some code ∧ Wp Try.prog cfT (SkH 5) code (doneQ Try.prog Try.f5.results.toList (fun vs _ => vs = [.bool true])) (Env.ofList [.slice a l.length c, .int .i64 x] 0) (h.low h.next) := by
  refine ⟨_, rfl, ?_⟩
  have t10 : cfT 10 = callW Try.prog SkH 10 := cfT_ne (by decide)
  have t23 : cfT 23 = callW Try.prog SkH 23 := cfT_ne (by decide)
  have t24 : cfT 24 = callW Try.prog SkH 24 := cfT_ne (by decide)
  by_cases hl : l.length ≤ 24
  · have hf : ((l.length : Int) ≤ 24) = True := eq_true (by omega)
    have hn : ∀ H : Heap, GA H l a → callW Try.prog SkH 23 [.slice a l.length c, .int .i64 x] H = some (srv (atP l x), H, true) ∧ callW Try.prog SkH 24 [.slice a l.length c, .int .i64 x] H = some (srv (atP l x), H, true) := fun H hH =>
      ⟨c23 l a c x H hH hl, by rw [at_eq]; exact c24 l a c x H hH hl⟩
    generalize atP l x = r at hn
    obtain ⟨n1, d1, n2, d2, e⟩ := r
    dsimp only [srv] at hn
    have e0 := Ext.low h
    have q23 := (hn (h.low h.next) (hg.ext e0)).1
    have e1 := (((e0.alloc ⟨[.int .i64 0, .int .i64 0], true, false, none⟩).alloc ⟨[.int .i64 0, .int .i64 0], true, false, none⟩).set (b := (h.low h.next).next) (Nat.le_refl _) ⟨[.int .i64 n1, .int .i64 d1], true, false, none⟩).set (b := (h.low h.next).next + 1) (Nat.le_succ _) ⟨[.int .i64 n2, .int .i64 d2], true, false, none⟩
    have q24 := (hn _ (hg.ext e1)).2
    simp only [go_sem, ↓forkQ_true, ↓forkQ_false, ↓guardQ_some, ↓resQ_val, ↓resQ_unit, ↓resQ_enter, ↓retQ_some, ↓resFQ_val, ↓resFQ_unit, ↓resFQ_enter, ↓retFQ_some, Nat.reduceEqDiff, reduceIte, Nat.reduceAdd, Nat.reduceMul, Nat.reduceSub, reduceCtorEq, Nat.reduceLeDiff] at q24
    simp only [go_sem, ↓forkQ_true, ↓forkQ_false, ↓guardQ_some, ↓resQ_val, ↓resQ_unit, ↓resQ_enter, ↓retQ_some, ↓resFQ_val, ↓resFQ_unit, ↓resFQ_enter, ↓retFQ_some, Nat.reduceEqDiff, reduceIte, Nat.reduceAdd, Nat.reduceMul, Nat.reduceSub, reduceCtorEq, Nat.reduceLeDiff, guardOf, t10, t23, t24, c10, hf, q23, q24, cfT_at, doneQ_ret]
    exact ⟨_, rfl, rfl⟩
  · have hf : ((l.length : Int) ≤ 24) = False := eq_false (by omega)
    simp only [go_sem, ↓forkQ_true, ↓forkQ_false, ↓guardQ_some, ↓resQ_val, ↓resQ_unit, ↓resQ_enter, ↓retQ_some, ↓resFQ_val, ↓resFQ_unit, ↓resFQ_enter, ↓retFQ_some, Nat.reduceEqDiff, reduceIte, Nat.reduceAdd, Nat.reduceMul, Nat.reduceSub, reduceCtorEq, Nat.reduceLeDiff, guardOf, t10, c10, hf, cfT_at, doneQ_ret]
    exact ⟨_, rfl, rfl⟩
theorem skewValues_lifted (os : Os) (started : os.Started) (H : Type) (enc : TypeId × Value → H) :
    ReturnsInHanded {} Try.checked os 5 .any (Rows.skewValuesSpec.pre6 enc Try.prog Try.f5 Rows.skewValuesRow.domain false) (Rows.skewValuesSpec.post enc Try.prog Try.f5 false true false false) := by
  refine returnsInHanded_of_change (C := Try.checked) Try.own started (by kernel_rfl) Try.func5
    (ChangeSpec.witness6 (enc := enc) (C := Try.checked) false ⟨#[], #[.slice none 0 0, .int .i64 0], []⟩ 8 (by kernel_rfl) (by kernel_rfl) (by kernel_rfl) (by kernel_rfl)) ?_
  intro W base args ds gs before hval0 hW hcnd _
  have hval : ∀ (j : Nat) t v, Try.f5.params[j]? = some t → args[j]? = some v → Value.okWide Try.prog W .any base t v := hval0
  have hW' := hW
  obtain ⟨p, q, hA0, hV, rfl, hfz, hnd⟩ := hW
  have hA : DataW.TrodAll enc Try.prog W 0 (fun _ => true) true Try.f5.params.toList args.toList ds p := hA0
  rw [Try.params5] at hA hval
  obtain ⟨v0, v1, d0, d1, p0, p1, rfl, rfl, rfl, h0, h1⟩ := trodAll_two hA
  obtain ⟨rfl, rfl⟩ := trodVars_none hV
  obtain ⟨x, rfl, rfl, rfl, wx⟩ := open_int Try.underlying3 (hval 1 3 v1 rfl rfl) h1
  simp only [List.append_nil] at hW'
  have hlt : ∀ x ∈ p0, x.block < W.heap.size := fun x hx => by simpa using hW'.lt x (by simpa using hx)
  obtain ⟨l, a, c, h, m, G⟩ := open_gates (hval 0 22 v0 rfl rfl) h0
  obtain ⟨code, hbody, hwp⟩ := w5 l a c x h G.ga
  have hc := law_calls (args := [.slice a l.length c, .int .i64 x]) (args' := [v0, .int .i64 x]) sk_ok cfT_wf cfT_ok Try.func5 hbody G.wf (fun v hv => by
    rcases List.mem_cons.1 hv with rfl | hv
    · exact G.sc
    · rw [List.mem_singleton.1 hv]; exact Sc.flat _ rfl) G.rel (LRel.cons G.val (LRel.cons (.flat rfl) LRel.nil)) hwp
  refine hc.mono fun e W' ⟨he, bel⟩ => ?_
  subst he
  refine ⟨_, rfl, [d0, .lit (.int .i64 x)], [], p0, [], p0, [], by simpa using hW', ?_, ?_, rfl, bel.frame _, fun h => by cases h⟩
  · exact trodAll_mk1 (shut_bool Try.underlying4 _)
  · have := trodAll_mk2 (Below.trod Try.laidOut (by kernel_rfl) (of_decide_eq_true (by kernel_rfl)) h0 bel hlt) (shut_int (w := W') (base := 0) (spare := fun b => decide (b < W.heap.size)) (held := true) (enc := enc) Try.underlying3 wx)
    rw [List.append_nil] at this
    exact this
theorem skewValues_holds : Rows.SkewValuesSaid :=
  OpenClaim.holds_of_wide 5 Try.f5 rfl rfl rfl rfl rfl rfl rfl ⟨rfl, rfl, rfl, rfl, rfl⟩ rfl rfl rfl rfl rfl (by kernel_rfl) Try.func5 (by kernel_rfl)
    (of_decide_eq_true (by kernel_rfl)) (by unfold Func.isWrapper; first | (rw [if_pos (by decide +kernel)]; kernel_rfl) | (rw [if_neg (by decide +kernel)]; exact ⟨rfl, rfl⟩))
    (fun os started H enc _ => skewValues_lifted os started H enc)
#print axioms skewValues_holds
end Go.Proofs.Ytlblocieleildaa
