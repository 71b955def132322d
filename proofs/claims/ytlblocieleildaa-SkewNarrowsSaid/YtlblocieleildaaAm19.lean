/- Operations whose order is left open: a call, whichever is next; then the region whole. -/
import Derived.Test.YtlblocieleildaaAm18
set_option linter.unusedVariables false
set_option linter.unusedSimpArgs false
set_option linter.unusedSectionVars false
namespace Go.Am
open Go.RowKit
section
variable {P : Program} {cf : CallF} {B : Nat} {w0 wS : World} {os : Array Oper} {E : Nat → Env} {H : Nat → Heap} {F : Nat → Foot} {L : Nat → Bool} {i : Nat} {m0 m : Mp} {a0 a : Act} {w : World} {Q : Exit → Act → World → Prop}
theorem HRel.less {G G' : Nat → Option Blk} (h : HRel B w0 m G w) (hg : ∀ b x, G' b = some x → G b = some x) : HRel B w0 m G' w :=
  ⟨h.below, h.base, fun b x hb => h.blk b x (hg b x hb), fun b b' x x' hb hb' => h.inj b b' x x' (hg b x hb) (hg b' x' hb')⟩
theorem made_by (hf : Facts P cf os E H F) : ∀ {i b : Nat}, i ≤ os.size → b < (H i).next → b < (H 0).next ∨ ∃ j, j < i ∧ Made H j b
  | 0, b, _, h => .inl h
  | i + 1, b, hi, h => by
    by_cases hlt : b < (H i).next
    · rcases made_by hf (i := i) (by omega) hlt with k | ⟨j, hj, hm⟩
      · exact .inl k
      · exact .inr ⟨j, by omega, hm⟩
    · exact .inr ⟨i, by omega, by omega, h⟩
section
variable (hd : DInv B w0 os E H F m0 wS a0 L m a w) (hn : Next1 os L i) (hc : AllCmp os H F) (hf : Facts P cf os E H F) (hcw : CfWf cf)
include hd hn hc hf hcw
theorem step_call {o : Oper} {ns : Nat} (ho : os[i]? = some o) (hns : ns ≤ a.tmps.size) (hok : ∀ x ∈ o.op.operands, okSlot ns x = true) (hcf : CfOk P cf B w0) {g : FuncId} {args : List Value} {v : Value} {q : Bool} (hst : stepOf P o (E i) (H i) = some (.enter g args))
    (hcl : cf g args (H i) = some (v, H (i + 1), q)) (he : E (i + 1) = (E i).put o.dst v) (hF : F i = ⟨true, !q, (H i).next, (H (i + 1)).next, [], []⟩) {K : Act → World → Prop}
    (hK : ∀ m' v' w', DInv B w0 os E H F m0 wS a0 (plus L i) m' (a.put o.dst v') w' → K (a.put o.dst v') w') : o.wp P a w K Q := by
  have hpre := pre_of hd hn hc hf hcw ho hns hok
  have hwf := hf.wf i (Nat.le_of_lt hn.lt)
  have hwf' := hf.wf (i + 1) hn.lt
  have hall : ∀ b, b < (H i).next → Tch H F i b := fun b hb => .inl ⟨by rw [hF], hb⟩
  have hnow : ∀ b, b < (H i).next → VH os H F L b = (H i).get b := fun b hb => VH_now hn hc hf hcw (.inl ⟨hall b hb, hb⟩)
  have hless : ∀ b x, (H i).get b = some x → VH os H F L b = some x := fun b x hb => (hnow b (hwf.lt b x hb)).trans hb
  have hsim := sim hpre hst (fun b hb => by cases hb) (fun h => by cases h)
  obtain ⟨args', h1, h2⟩ := hsim
  have hargs : ∀ v ∈ args, Sc (· < (H i).next) v := step_ok (p := (· < (H i).next)) hwf (fun x _ => ev_sc (hf.sc i (Nat.le_of_lt hn.lt)) x) hst fun b hb => by cases hb
  obtain ⟨c1, c2, c3, c4⟩ := hcw g args (H i) v (H (i + 1)) q hcl hwf hargs
  have hmadeEq : ∀ b, Made H i b ↔ ((H i).next ≤ b ∧ b < (H (i + 1)).next) := fun b => Iff.rfl
  -- what step i leaves, wherever it may have been
  have hthen : ∀ b, b < (H (i + 1)).next → VH os H F (plus L i) b = (H (i + 1)).get b := fun b hb => by
    by_cases hlt : b < (H i).next
    · exact VH_then hn hc hf hcw (.inl ⟨hall b hlt, hlt⟩)
    · exact VH_then hn hc hf hcw (.inr ⟨by omega, hb⟩)
  have hfar : ∀ b, (H (i + 1)).next ≤ b → VH os H F (plus L i) b = VH os H F L b := fun b hb => VH_plus fun hit => by
    rcases hit with hit | hit
    · have := (hf.wr_tch hn.lt hit).2
      have := c3.next
      omega
    · have := hit.2; omega
  have hsc0 : ∀ c, pL os H L c → ¬ ((H i).next ≤ c ∧ c < (H (i + 1)).next) := fun c h => pL_not_made hn hc hf h
  have hp : ∀ b, pL os H L b → pL os H (plus L i) b := fun b hb => (pL_plus hn.lt).2 (.inl hb)
  unfold Oper.wp
  rw [h1, Oper.upon_enter]
  refine (hcf g args (H i) v (H (i + 1)) q hcl m w args' hwf hargs (hd.heap.less hless) h2).mono ?_
  rintro en w' ⟨v', m1, rfl, k1, k2, k6⟩
  refine hK (fun b => if b < (H (i + 1)).next then m1 b else m b) v' w' ?_
  generalize hm' : (fun b => if b < (H (i + 1)).next then m1 b else m b) = m'
  have m1e : ∀ b, b < (H (i + 1)).next → m' b = m1 b := fun b hb => by subst hm'; simp only [if_pos hb]
  have m2e : ∀ b, ¬ ((H i).next ≤ b ∧ b < (H (i + 1)).next) → m' b = m b := fun b hb => by
    by_cases h : b < (H (i + 1)).next
    · rw [m1e b h]; exact k6.keep b (by omega)
    · subst hm'; simp only [if_neg h]
  have hkeep : ∀ b, pL os H L b → m' b = m b := fun b hb => m2e b (hsc0 b hb)
  -- where a block of the new state comes from
  have split : ∀ b x, VH os H F (plus L i) b = some x → (b < (H (i + 1)).next ∧ (H (i + 1)).get b = some x) ∨ ((H (i + 1)).next ≤ b ∧ VH os H F L b = some x) := fun b x hb => by
    rcases Nat.lt_or_ge b (H (i + 1)).next with h | h
    · exact .inl ⟨h, (hthen b h).symm.trans hb⟩
    · exact .inr ⟨h, (hfar b h).symm.trans hb⟩
  have hwB : Below B w0 w' := k2.below
  have hpB : ∀ k, k < B → w'.heap[k]? = w.heap[k]? := fun k hk => (hwB.block k hk).trans (hd.heap.below.block k hk).symm
  have nxt := c3.next
  -- all that was made before is of those that are done
  have hcov : ∀ b, b < (H (i + 1)).next → pL os H (plus L i) b := fun b hb => by
    by_cases hlt : b < (H i).next
    · refine hp b ?_
      rcases made_by hf (Nat.le_of_lt hn.lt) hlt with h | ⟨j, hj, hm⟩
      · exact .inl h
      · have hjo : j < os.size := Nat.lt_trans hj hn.lt
        rcases other hn hc hjo (Nat.ne_of_lt hj) with h | ⟨_, _, _, _, _, _, h⟩ | ⟨h, _⟩
        · exact .inr ⟨j, hjo, by simp [h, hj], hm⟩
        · exact absurd hm (h.c3 b (hall b hlt))
        · omega
    · exact (pL_plus hn.lt).2 (.inr ⟨by omega, hb⟩)
  have hE := VE_put hn hc hf ho he
  -- an own block of the new state, and an own block of the old: of one place, just if they are one
  have src : ∀ b x, (H (i + 1)).get b = some x → x.ro = false → w.heap.size ≤ (m1 b).blk ∨ ∃ c y, c < (H i).next ∧ VH os H F L c = some y ∧ y.ro = false ∧ (m1 b).blk = (m c).blk := fun b x hb hro => by
    by_cases hlt : b < (H i).next
    · obtain ⟨x0, e1, e2⟩ := k6.old b x hlt hb
      exact .inr ⟨b, x0, hlt, hless b x0 e1, e2.trans hro, by rw [k6.keep b hlt]⟩
    · rcases k6.fresh b x hb hro hlt with h | ⟨c, y, e1, e2, e3⟩
      · exact .inl h
      · exact .inr ⟨c, y, hwf.lt c y e1, hless c y e1, e2, e3⟩
  have cross : ∀ b x b' x', b < (H (i + 1)).next → (H (i + 1)).get b = some x → x.ro = false → (H (i + 1)).next ≤ b' → VH os H F L b' = some x' → x'.ro = false → (m' b).blk ≠ (m' b').blk := by
    intro b x b' x' hlt hb hro hge hb' hro' heq
    rw [m1e b hlt, m2e b' (by omega)] at heq
    have hlt' := (hd.heap.blk b' x' hb').lt
    rcases src b x hb hro with h | ⟨c, y, e0, e1, e2, e3⟩
    · omega
    · have := hd.heap.inj c b' y x' e1 hb' e2 hro' (e3.symm.trans heq)
      omega
  refine ⟨⟨hwB, k2.base, fun b x hb => ?_, fun b b' x x' hb hb' hr hr' heq => ?_⟩, put_env hd.env hd.sc hkeep hE (k1.moved m1e c2), put_sc hd.sc hp hE ?_, fun b x hb => ?_, hd.evo.trans (q := pL os H L) (m1 := m) (w1 := w) (G1 := VH os H F L) ⟨hkeep, k6.size, ?_, ?_, ?_⟩ (fun c hc => .inl hc), (put_size _ _ _).trans hd.size, (put_defers _ _ _).trans hd.defers⟩
  · rcases split b x hb with ⟨h, hb⟩ | ⟨h, hb⟩
    · exact (k2.blk b x hb).moved (p := (· < (H (i + 1)).next)) m1e (m1e b h) (hwf'.ok b x hb).sc
    · have hbr := hd.heap.blk b x hb
      have hpl := hd.hs b x hb
      refine (hbr.world (w' := w') ?_).moved hkeep (m2e b (by omega)) hpl.2
      cases hro : x.ro
      · refine k6.far _ hbr.lt fun c y hcy hyr heq => ?_
        have := hd.heap.inj c b y x (hless c y hcy) hb hyr hro heq
        have := hwf.lt c y hcy
        omega
      · exact hpB _ (hbr.ro_lt hro)
  · rcases split b x hb with ⟨h, hb⟩ | ⟨h, hb⟩ <;> rcases split b' x' hb' with ⟨h', hb'⟩ | ⟨h', hb'⟩
    · rw [m1e b h, m1e b' h'] at heq; exact k2.inj b b' x x' hb hb' hr hr' heq
    · exact absurd heq (cross b x b' x' h hb hr h' hb' hr')
    · exact absurd heq.symm (cross b' x' b x h' hb' hr' h hb hr)
    · rw [m2e b (by omega), m2e b' (by omega)] at heq; exact hd.heap.inj b b' x x' hb hb' hr hr' heq
  · exact c2.mono hcov
  · rcases split b x hb with ⟨h, hb⟩ | ⟨h, hb⟩
    · exact ⟨hcov b h, fun u hu => ((hwf'.ok b x hb).sc u hu).mono hcov⟩
    · exact ⟨hp b (hd.hs b x hb).1, fun u hu => ((hd.hs b x hb).2 u hu).mono hp⟩
  · intro k hk hne
    exact k6.far k hk fun c y hcy hyr => hne c y (hless c y hcy) hyr
  · intro b x hb hro hnp
    rcases split b x hb with ⟨h, hb⟩ | ⟨h, hb⟩
    · rcases src b x hb hro with hh | ⟨c, y, e0, e1, e2, e3⟩
      · rw [m1e b h]; exact .inl hh
      · rw [m1e b h]; exact .inr ⟨c, y, e1, e2, e3⟩
    · exact absurd (hd.hs b x hb).1 hnp
  · intro b x hpb hb
    rcases split b x hb with ⟨h, hb⟩ | ⟨h, hb⟩
    · have hlt : b < (H i).next := by have := hsc0 b hpb; omega
      obtain ⟨x0, e1, e2⟩ := k6.old b x hlt hb
      exact ⟨x0, hless b x0 e1, e2⟩
    · exact ⟨x, hb, rfl⟩
end
/-- whichever is next -/
theorem draw_step {ns : Nat} (hd : DInv B w0 os E H F m0 wS a0 L m a w) (hn : Next1 os L i) (hc : AllCmp os H F) (hf : Facts P cf os E H F) (hcw : CfWf cf) (hcf : CfOk P cf B w0) (hns : ns ≤ a.tmps.size) (hok : os.toList.all (okOper ns os.toList) = true)
    {K : Act → World → Prop} (hK : ∀ m' a' w', DInv B w0 os E H F m0 wS a0 (plus L i) m' a' w' → K a' w') : wpOp P os Q i K a w := by
  obtain ⟨o, ho⟩ : ∃ o, os[i]? = some o := ⟨_, get_at hn.lt⟩
  obtain ⟨o1, o2, o3⟩ := okOper_parts (List.all_eq_true.1 hok o (by simpa using Array.mem_of_getElem? ho))
  have hwant : ∀ b, wantedA os.toList o (E i) = some b → Region.wanted o (yielded os a.tmps) = b := fun b hw => wanted_rel (fun j want d hg hdd => by
    have hlt : d < a.tmps.size := Nat.lt_of_lt_of_le (by have o3' := o3; rw [hg] at o3'; simp only [okGuard, Array.getElem?_toList] at o3'; rw [hdd] at o3'; exact lt_of_blt o3') hns
    have := hd.env d hlt
    rw [VE_now hn hc hf ho (.inl (List.mem_append_right _ (by rw [hg]; dsimp only; rw [hdd]; simp)))] at this
    exact this) hns o3 hw
  unfold wpOp
  simp only [ho]
  cases hf.s1 i o ho with
  | skip hw he hh hF =>
    rw [hwant _ hw]
    simp only [Bool.false_eq_true, if_false]
    exact hK _ _ _ (step_skip hd hn hc hf hcw ho he hh hF)
  | plain hw r v hst hr he hh hF =>
    rw [hwant _ hw]
    simp only [if_true]
    refine .inl ?_
    obtain ⟨n, w', v', m', h1, h2, h3⟩ := step_plain hd hn hc hf hcw ho hns o2 hst hr he hh hF
    unfold Oper.wp
    rw [h1]
    rcases h2 with rfl | ⟨rfl, rfl⟩
    · rw [Oper.upon_value]; exact hK _ _ _ h3
    · rw [Oper.upon_skip]; exact hK _ _ _ h3
  | call hw g args v q hst hcl he hF =>
    rw [hwant _ hw]
    simp only [if_true]
    exact .inl (step_call hd hn hc hf hcw ho hns o2 hcf hst hcl he hF fun m' v' w' h => hK m' _ w' h)

/-! ### All of them -/
def cnt (L : Nat → Bool) : Nat → Nat
  | 0 => 0
  | k + 1 => cnt L k + if L k = true then 0 else 1
theorem cnt_plus_le {L : Nat → Bool} {i : Nat} : ∀ {n : Nat}, n ≤ i → cnt (plus L i) n = cnt L n
  | 0, _ => rfl
  | n + 1, h => by simp only [cnt]; rw [cnt_plus_le (by omega), plus_ne (by omega)]
theorem cnt_plus {L : Nat → Bool} {i : Nat} (hl : L i = false) : ∀ {n : Nat}, i < n → cnt (plus L i) n + 1 = cnt L n
  | 0, h => by omega
  | n + 1, h => by
    simp only [cnt]
    by_cases he : n = i
    · subst he
      rw [cnt_plus_le (Nat.le_refl _), plus_same, hl]; simp
    · rw [plus_ne he, ← cnt_plus hl (n := n) (by omega)]; omega
theorem cnt_zero {L : Nat → Bool} : ∀ {n : Nat}, cnt L n = 0 → ∀ k, k < n → L k = true
  | 0, _, k, hk => by omega
  | n + 1, h, k, hk => by
    simp only [cnt] at h
    by_cases he : k = n
    · subst he; cases hl : L k
      · rw [hl] at h; simp at h
      · rfl
    · exact cnt_zero (n := n) (by omega) k (by omega)
theorem cnt_le {L : Nat → Bool} : ∀ {n : Nat}, cnt L n ≤ n
  | 0 => Nat.le_refl _
  | n + 1 => by simp only [cnt]; have := cnt_le (L := L) (n := n); split <;> omega
def lOf (l : Array Bool) (k : Nat) : Bool := l.getD k false
theorem lOf_set {l : Array Bool} {i : Nat} (h : i < l.size) : lOf (l.setIfInBounds i true) = plus (lOf l) i := by
  funext k
  by_cases hk : k = i
  · subst hk; simp [lOf, plus_same, h]
  · rw [plus_ne hk]
    exact getD_set_ne false (Ne.symm hk)
theorem any_sim {ns : Nat} (hc : AllCmp os H F) (hf : Facts P cf os E H F) (hcw : CfWf cf) (hcf : CfOk P cf B w0) (hns : ns ≤ a0.tmps.size) (hok : os.toList.all (okOper ns os.toList) = true)
    (hed : ∀ (j : Nat) (o : Oper) (e : Edge), os[j]? = some o → e ∈ o.after → Region.binds .any e = true → e.on < j)
    (hQ : ∀ (L : Nat → Bool) m a w, (∀ k, k < os.size → L k = true) → DInv B w0 os E H F m0 wS a0 L m a w → Q .normal a w) :
    ∀ (fuel : Nat) (l : Array Bool) (m : Mp) (a : Act) (w : World), l.size = os.size → DC os (lOf l) → cnt (lOf l) os.size ≤ fuel → DInv B w0 os E H F m0 wS a0 (lOf l) m a w → wpAny P .any os Q fuel l a w := by
  have rdy : ∀ {l : Array Bool} {j : Nat}, l.size = os.size → (j ∈ Region.ready .any os l ↔ j < os.size ∧ lOf l j = false ∧ ∀ o e, os[j]? = some o → e ∈ o.after → Region.binds .any e = true → lOf l e.on = true) := by
    intro l j hl
    rw [mem_ready]
    constructor
    · rintro ⟨h0, o, ho, h1⟩
      have hj : j < os.size := (Array.getElem?_eq_some_iff.1 ho).1
      refine ⟨hj, ?_, fun o' e ho' he hb => ?_⟩
      · rw [← hl] at hj; simp [lOf, hj] at h0 ⊢; exact h0
      · rw [ho] at ho'; cases ho'; exact h1 e he hb
    · rintro ⟨hj, h0, h1⟩
      refine ⟨?_, os[j], get_at hj, fun e he hb => h1 _ e (get_at hj) he hb⟩
      rw [← hl] at hj; simp [lOf, hj] at h0 ⊢; exact h0
  have done : ∀ {l : Array Bool}, l.size = os.size → Region.ready .any os l = [] → ∀ n k, k < n → k < os.size → lOf l k = true := by
    intro l hl he n
    induction n with
    | zero => intro k hk; omega
    | succ n ih =>
      intro k hk hks
      cases hh : lOf l k
      · have : k ∈ Region.ready .any os l := (rdy hl).2 ⟨hks, hh, fun o e ho hm hb => ih e.on (by have := hed k o e ho hm hb; omega) (by have := hed k o e ho hm hb; omega)⟩
        rw [he] at this; cases this
      · rfl
  intro fuel
  induction fuel with
  | zero =>
    intro l m a w hl hdc hcnt hd
    have hall := cnt_zero (Nat.le_zero.1 hcnt)
    refine ⟨?_, hQ _ m a w hall hd⟩
    rw [List.eq_nil_iff_forall_not_mem]
    intro j hj
    obtain ⟨h1, h2, _⟩ := (rdy hl).1 hj
    rw [hall j h1] at h2; cases h2
  | succ fuel ih =>
    intro l m a w hl hdc hcnt hd
    refine ⟨fun he => hQ _ m a w (fun k hk => done hl he (k + 1) k (by omega) hk) hd, fun i hi => ?_⟩
    obtain ⟨h1, h2, h3⟩ := (rdy hl).1 hi
    have hdc' : DC os (plus (lOf l) i) := fun j o e ho hS he hb => by
      by_cases hj : j = i
      · subst hj; simp [plus, h3 o e ho he hb]
      · rw [plus_ne hj] at hS; simp [plus, hdc j o e ho hS he hb]
    have hset := lOf_set (l := l) (i := i) (by rw [hl]; exact h1)
    refine draw_step hd ⟨h1, hdc, hdc', h2⟩ hc hf hcw hcf (by rw [hd.size]; exact hns) hok fun m' a' w' hd' => ih _ m' a' w' (by simp [hl]) (by rw [hset]; exact hdc') ?_ (by rw [hset]; exact hd')
    rw [hset]
    have := cnt_plus h2 h1
    omega
theorem needs_cmp (hcw : CfWf cf) (hf : Facts P cf os E H F) {d : Option (List (Nat × Nat))} {fs : List Foot} (hfs : ∀ i, i < os.size → fs[i]? = some (F i)) (hdr : drawOk d fs = true) (hok : okDraw os d = true) : AllCmp os H F := by
  intro i j hij hj
  have h1 := List.all_eq_true.1 hok j (by simp [hj])
  simp only [Bool.and_eq_true] at h1
  have h2 := List.all_eq_true.1 h1.2 i (by simp [hij])
  simp only [Bool.or_eq_true] at h2
  rcases h2 with h2 | h2
  · exact .inl fun S hS hj => masks_spec (l := os.toList) (fun j o e ho => hS j o e (by simpa using ho)) hj h2
  · have hi : i < os.size := Nat.lt_trans hij hj
    unfold pairStat at h2
    rw [get_at hi, get_at hj] at h2
    simp only [Bool.and_eq_true] at h2
    refine .inr ⟨_, _, get_at hi, get_at hj, h2.1, ?_⟩
    cases d with
    | none =>
      have hq : ∀ k, k < os.size → quietFoot (F k) = true := fun k hk => List.all_eq_true.1 hdr _ (List.mem_of_getElem? (hfs k hk))
      exact free_of_pair hf hi hj (quiet_pair (hq i hi) (hq j hj))
    | some ps =>
      have h3 := h2.2
      simp only [Bool.or_eq_true, Bool.not_eq_true', List.any_eq_true, Bool.and_eq_true] at h3
      rcases h3 with h3 | ⟨p, hp, e1, e2⟩
      · exact free_of_kinds hf (get_at hi) (get_at hj) h3
      · have h4 := List.all_eq_true.1 hdr p hp
        have e1 := Nat.eq_of_beq_eq_true e1
        have e2 := Nat.eq_of_beq_eq_true e2
        rw [e1, e2, hfs i hi, hfs j hj] at h4
        exact free_of_pair hf hi hj h4
theorem edges_of (d : Option (List (Nat × Nat))) (hok : okDraw os d = true) (j : Nat) (o : Oper) (e : Edge) (ho : os[j]? = some o) (he : e ∈ o.after) (hb : Region.binds .any e = true) : e.on < j := by
  have hj : j < os.size := (Array.getElem?_eq_some_iff.1 ho).1
  have h1 := List.all_eq_true.1 hok j (by simp [hj])
  simp only [Bool.and_eq_true] at h1
  have h2 := h1.1
  unfold edgeOk at h2
  have h3 : os.getD j default = o := by simp [ho]
  rw [h3] at h2
  have h4 := List.all_eq_true.1 h2 e (by simpa using he)
  rw [hb] at h4
  exact lt_of_blt (by simpa using h4)
theorem draw_sim {id ns : Nat} {d : Option (List (Nat × Nat))} {e e' : Env} {h h' : Heap} {fs : List Foot} (hmix : P.follows .mixedOrders = true) (hcw : CfWf cf) (hcf : CfOk P cf B w0) (hr : opsF P cf os.toList os.toList e h = some (e', h', fs)) (hdr : drawOk d fs = true)
    (hok : os.toList.all (okOper ns os.toList) = true) (hod : okDraw os d = true) (hs : St B w0 m e h a w) (hns : ns ≤ a.tmps.size)
    (hQ : ∀ m' a' w', St B w0 m' e' h' a' w' → Evo m m' h h' w w' → a'.defers = a.defers → a'.tmps.size = a.tmps.size → Q .normal a' w') : (Code.region id os true).wp P Q a w := by
  obtain ⟨E, H, F, q1, q2, q3, q4, q5, q6⟩ := run_of_opsF os.toList e h e' h' fs hr
  subst q1 q2 q3 q4
  simp only [Array.length_toList] at q6 hQ
  have hf := facts_of_run hcw q5 hs.wf hs.sc
  have hcmp := needs_cmp hcw hf q6 hdr hod
  refine wp_region_any hmix ?_
  have hb1 : Below B w0 { w with drawn := w.drawn + 1 } := by
    obtain ⟨k1, k2, k3, k4, k5⟩ := hs.heap.below
    exact ⟨k1, k2, k3, k4, k5⟩
  have hHr : HRel B w0 m (H 0).get { w with drawn := w.drawn + 1 } := ⟨hb1, hs.heap.base, fun b x hb => (hs.heap.blk b x hb).world rfl, hs.heap.inj⟩
  have hev0 : CEvo (· < (H 0).next) m m (H 0).get (H 0).get w { w with drawn := w.drawn + 1 } := ⟨fun _ _ => rfl, Nat.le_refl _, fun _ _ _ => rfl, fun b x hb _ hn => absurd (hs.wf.lt b x hb) hn, fun b x _ hb => ⟨x, hb, rfl⟩⟩
  have hl0 : lOf (Array.replicate os.size false) = fun _ => false := by
    funext k
    simp only [lOf, Array.getD_eq_getD_getElem?, Array.getElem?_replicate]
    split <;> rfl
  have hV0 : VH os H F (fun _ => false) = (H 0).get := funext fun b => KV_none
  have hp0 : ∀ b, b < (H 0).next → pL os H (fun _ => false) b := fun b hb => .inl hb
  refine any_sim (m0 := m) (wS := w) (a0 := a) hcmp hf hcw hcf hns hok (edges_of d hod) ?_ os.size (Array.replicate os.size false) m a _ (by simp) (by rw [hl0]; exact fun j o e _ h => by cases h) (by rw [hl0]; exact cnt_le) ?_
  · intro L m' a' w' hall hd
    have hE : ∀ t, VE os E L t = (E os.size).get t := fun t => VE_at hf (fun k hk _ => by simp [hall k hk, hk]) (Nat.le_refl _)
    have hH : VH os H F L = (H os.size).get := funext fun b => VH_at hf hcw (fun k hk _ => by simp [hall k hk, hk]) (Nat.le_refl _)
    have hwn := hf.wf os.size (Nat.le_refl _)
    have hev := hd.evo
    rw [hH] at hev
    refine hQ m' a' w' ⟨hH ▸ hd.heap, fun t ht => hE t ▸ hd.env t ht, hwn, hf.sc os.size (Nat.le_refl _)⟩ ⟨hev, ?_⟩ hd.defers hd.size
    have evs : ∀ n, n ≤ os.size → AEvo (H 0) (H n) := by
      intro n
      induction n with
      | zero => intro _; exact AEvo.refl hs.wf
      | succ n ih => intro hn; exact (ih (by omega)).trans (hf.evo n (by omega))
    exact evs os.size (Nat.le_refl _)
  · rw [hl0]
    refine ⟨hV0 ▸ hHr, fun t ht => ?_, fun t => ?_, fun b x hb => ?_, hV0 ▸ hev0, rfl, rfl⟩
    · rw [show VE os E (fun _ => false) t = (E 0).get t from KV_none]; exact hs.env t ht
    · rw [show VE os E (fun _ => false) t = (E 0).get t from KV_none]; exact (hs.sc t).mono hp0
    · rw [hV0] at hb
      exact ⟨hp0 b (hs.wf.lt b x hb), fun v hv => ((hs.wf.ok b x hb).sc v hv).mono hp0⟩
end
end Go.Am
