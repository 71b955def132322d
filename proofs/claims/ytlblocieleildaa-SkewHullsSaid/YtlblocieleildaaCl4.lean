/- SkewHulls holds: the corners of both hulls are the specified ones, for lists of at most 24 gates; of longer ones the law asks nothing but its closed examples. -/
import Derived.Test.YtlblocieleildaaSk7
import Derived.Test.YtlblocieleildaaSk10
import Derived.Test.YtlblocieleildaaSk12
import Derived.Test.YtlblocieleildaaTp1
set_option linter.unusedSimpArgs false
set_option linter.unusedVariables false
set_option maxRecDepth 100000
namespace Go.Proofs.Ytlblocieleildaa
open Go.Am Go.Plain Go.ChangeShapes Go.WideShapes Go.ChangeAt Go.RowKit

theorem corn_iff (l : List Gt) (k : Nat) : cornB l k = true ↔ Corner (Xs l) (His l) l.length k := by
  rw [cornB_true]
  constructor
  · intro h i j h1 h2 h3
    have := h i j h1 h2 h3
    unfold cr Xs His
    rw [Int.mul_comm ((gt l k).x - (gt l i).x), Int.mul_comm ((gt l j).x - (gt l i).x)]
    omega
  · intro h i j h1 h2 h3
    have := h i j h1 h2 h3
    unfold cr Xs His at this
    rw [Int.mul_comm ((gt l k).x - (gt l i).x), Int.mul_comm ((gt l j).x - (gt l i).x)] at this
    omega
theorem corn_iff' (l : List Gt) (k : Nat) (hk : k < l.length) : cornB (turnedL l) k = true ↔ Corner (Xs l) (Los l) l.length k := by
  rw [corn_iff, turnedL_len]
  have e : ∀ i, i < l.length → Xs (turnedL l) i = Xs l i ∧ His (turnedL l) i = Los l i := fun i hi => by
    unfold Xs His Los; rw [turnedL_at l i hi]; exact ⟨rfl, rfl⟩
  have e2 : ∀ i j, i < k → k < j → j < l.length → cr (Xs (turnedL l)) (His (turnedL l)) i k j = cr (Xs l) (Los l) i k j := fun i j h1 h2 h3 => by
    unfold cr
    rw [(e i (by omega)).1, (e i (by omega)).2, (e j h3).1, (e j h3).2, (e k hk).1, (e k hk).2]
  constructor
  · intro h i j h1 h2 h3; have := h i j h1 h2 h3; rw [e2 i j h1 h2 h3] at this; exact this
  · intro h i j h1 h2 h3; rw [e2 i j h1 h2 h3]; exact h i j h1 h2 h3
theorem low_eq (l : List Gt) : lowP l = lowR l := by
  unfold lowP lowR
  by_cases hz : checkZ l = 0
  · rw [if_pos hz, if_pos hz]
    have o := (checkZ_ok l).1 hz
    unfold bot cornU
    rw [hull_corners (x := Xs l) (y := His l) o.lt o.pos (cornB l) (fun k _ => corn_iff l k)]
  · rw [if_neg hz, if_neg hz]
theorem upp_eq (l : List Gt) : uppP l = uppR l := by
  unfold uppP uppR
  by_cases hz : checkZ l = 0
  · rw [if_pos hz, if_pos hz]
    have o := (checkZ_ok l).1 hz
    unfold bot cornU
    rw [hull_corners (x := Xs l) (y := Los l) o.lt o.pos (cornB (turnedL l)) (fun k hk => corn_iff' l k hk)]
  · rw [if_neg hz, if_neg hz]
theorem lowP_len (l : List Gt) : (lowP l).length ≤ l.length := by
  unfold lowP; split
  · rw [bot_len]; exact stack_len _
  · exact Nat.zero_le _
theorem uppP_len (l : List Gt) : (uppP l).length ≤ l.length := by
  unfold uppP; split
  · rw [bot_len]; exact stack_len _
  · exact Nat.zero_le _
theorem cfT_ne {f : FuncId} (h : f ≠ 11) : cfT f = callW Try.prog SkH f := cfA_ne h
theorem cfT_at {h : Heap} : cfT 11 [] h = some (.bool true, h, true) := cfA_at
theorem w4 (l : List Gt) (a : Option Addr) (c : Nat) (h : Heap) (hg : GA h l a) : ∃ code, Try.f4.body = some code ∧ Wp Try.prog cfT (SkH 4) code (doneQ Try.prog Try.f4.results.toList (fun vs _ => vs = [.bool true])) (Env.ofList [.slice a l.length c] 0) (h.low h.next) := by
  refine ⟨_, rfl, ?_⟩
  have t10 : cfT 10 = callW Try.prog SkH 10 := cfT_ne (by decide)
  have t18 : cfT 18 = callW Try.prog SkH 18 := cfT_ne (by decide)
  have t19 : cfT 19 = callW Try.prog SkH 19 := cfT_ne (by decide)
  have t20 : cfT 20 = callW Try.prog SkH 20 := cfT_ne (by decide)
  have t21 : cfT 21 = callW Try.prog SkH 21 := cfT_ne (by decide)
  have t22 : cfT 22 = callW Try.prog SkH 22 := cfT_ne (by decide)
  by_cases hl : l.length ≤ 24
  · have hf : ((l.length : Int) ≤ 24) = True := eq_true (by omega)
    obtain ⟨a1, c1, h1, q19, g1, o1⟩ := c19 l a c (h.low h.next) (hg.ext (Ext.low h)) hl
    obtain ⟨a2, c2, h2, q20, g2, o2⟩ := c20 l a c h1 ((hg.ext (Ext.low h)).grow g1) hl
    have q18 := c18 (lowP l) (lowR l) a1 a2 c1 c2 h2 ((OL.ia o1).grow g2) (OL.ia o2) (by have := lowP_len l; omega)
    rw [decide_eq_true (low_eq l)] at q18
    obtain ⟨a3, c3, h3, q21, g3, o3⟩ := c21 l a c h2 (((hg.ext (Ext.low h)).grow g1).grow g2) hl
    obtain ⟨a4, c4, h4, q22, g4, o4⟩ := c22 l a c h3 ((((hg.ext (Ext.low h)).grow g1).grow g2).grow g3) hl
    have q18' := c18 (uppP l) (uppR l) a3 a4 c3 c4 h4 ((OL.ia o3).grow g4) (OL.ia o4) (by have := uppP_len l; omega)
    rw [decide_eq_true (upp_eq l)] at q18'
    simp only [go_sem, ↓forkQ_true, ↓forkQ_false, ↓guardQ_some, ↓resQ_val, ↓resQ_unit, ↓resQ_enter, ↓retQ_some, ↓resFQ_val, ↓resFQ_unit, ↓resFQ_enter, ↓retFQ_some, Nat.reduceEqDiff, reduceIte, Nat.reduceAdd, Nat.reduceMul, Nat.reduceSub, reduceCtorEq, Nat.reduceLeDiff, guardOf, t10, t18, t19, t20, t21, t22, c10, hf, q19, q20, q18, q21, q22, q18', cfT_at, doneQ_ret]
    exact ⟨_, rfl, rfl⟩
  · have hf : ((l.length : Int) ≤ 24) = False := eq_false (by omega)
    simp only [go_sem, ↓forkQ_true, ↓forkQ_false, ↓guardQ_some, ↓resQ_val, ↓resQ_unit, ↓resQ_enter, ↓retQ_some, ↓resFQ_val, ↓resFQ_unit, ↓resFQ_enter, ↓retFQ_some, Nat.reduceEqDiff, reduceIte, Nat.reduceAdd, Nat.reduceMul, Nat.reduceSub, reduceCtorEq, Nat.reduceLeDiff, guardOf, t10, c10, hf, cfT_at, doneQ_ret]
    exact ⟨_, rfl, rfl⟩
theorem skewHulls_lifted (os : Os) (started : os.Started) (H : Type) (enc : TypeId × Value → H) :
    ReturnsInHanded {} Try.checked os 4 .any (Rows.skewHullsSpec.pre6 enc Try.prog Try.f4 Rows.skewHullsRow.domain false) (Rows.skewHullsSpec.post enc Try.prog Try.f4 false true false false) := by
  refine returnsInHanded_of_change (C := Try.checked) Try.own started (by kernel_rfl) Try.func4
    (ChangeSpec.witness6 (enc := enc) (C := Try.checked) false ⟨#[], #[.slice none 0 0], []⟩ 8 (by kernel_rfl) (by kernel_rfl) (by kernel_rfl) (by kernel_rfl)) ?_
  intro W base args ds gs before hval0 hW hcnd _
  have hval : ∀ (j : Nat) t v, Try.f4.params[j]? = some t → args[j]? = some v → Value.okWide Try.prog W .any base t v := hval0
  have hW' := hW
  obtain ⟨p, q, hA0, hV, rfl, hfz, hnd⟩ := hW
  have hA : DataW.TrodAll enc Try.prog W 0 (fun _ => true) true Try.f4.params.toList args.toList ds p := hA0
  rw [Try.params4] at hA hval
  obtain ⟨v0, d0, rfl, rfl, h0⟩ := trodAll_one hA
  obtain ⟨rfl, rfl⟩ := trodVars_none hV
  simp only [List.append_nil] at hW'
  have hlt : ∀ x ∈ p, x.block < W.heap.size := fun x hx => by simpa using hW'.lt x hx
  obtain ⟨l, a, c, h, m, G⟩ := open_gates (hval 0 22 v0 rfl rfl) h0
  obtain ⟨code, hbody, hwp⟩ := w4 l a c h G.ga
  have hc := law_calls (args := [.slice a l.length c]) (args' := [v0]) sk_ok cfT_wf cfT_ok Try.func4 hbody G.wf (fun v hv => by rw [List.mem_singleton.1 hv]; exact G.sc) G.rel (LRel.cons G.val LRel.nil) hwp
  refine hc.mono fun e W' ⟨he, bel⟩ => ?_
  subst he
  refine ⟨_, rfl, [d0], [], p, [], p, [], hW', ?_, ?_, rfl, bel.frame _, fun h => by cases h⟩
  · exact trodAll_mk1 (shut_bool Try.underlying4 _)
  · exact trodAll_mk1 (Below.trod Try.laidOut (by kernel_rfl) (of_decide_eq_true (by kernel_rfl)) h0 bel hlt)
theorem skewHulls_holds : Rows.SkewHullsSaid :=
  OpenClaim.holds_of_wide 4 Try.f4 rfl rfl rfl rfl rfl rfl rfl ⟨rfl, rfl, rfl, rfl, rfl⟩ rfl rfl rfl rfl rfl (by kernel_rfl) Try.func4 (by kernel_rfl)
    (of_decide_eq_true (by kernel_rfl)) (by unfold Func.isWrapper; first | (rw [if_pos (by decide +kernel)]; kernel_rfl) | (rw [if_neg (by decide +kernel)]; exact ⟨rfl, rfl⟩))
    (fun os started H enc _ => skewHulls_lifted os started H enc)
#print axioms skewHulls_holds
end Go.Proofs.Ytlblocieleildaa
