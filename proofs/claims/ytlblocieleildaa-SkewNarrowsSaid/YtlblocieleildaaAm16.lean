/- Operations whose order is left open: what each step of the text's order keeps, and that unordered steps may change places. -/
import Derived.Test.YtlblocieleildaaAm15
set_option linter.unusedVariables false
set_option linter.unusedSimpArgs false
namespace Go.Am
open Go.RowKit
section
variable {P : Program} {cf : CallF} {os : Array Oper} {E : Nat → Env} {H : Nat → Heap} {F : Nat → Foot}

/-- blocks written, blocks looked at, blocks made by step i -/
def Wr (H : Nat → Heap) (F : Nat → Foot) (i b : Nat) : Prop := ((F i).wild = true ∧ b < (H i).next) ∨ b ∈ (F i).wr
def Tch (H : Nat → Heap) (F : Nat → Foot) (i b : Nat) : Prop := ((F i).all = true ∧ b < (H i).next) ∨ b ∈ (F i).rd
def Made (H : Nat → Heap) (i b : Nat) : Prop := (H i).next ≤ b ∧ b < (H (i + 1)).next
def Hit (H : Nat → Heap) (F : Nat → Foot) (i b : Nat) : Prop := Wr H F i b ∨ Made H i b
structure Facts (P : Program) (cf : CallF) (os : Array Oper) (E : Nat → Env) (H : Nat → Heap) (F : Nat → Foot) : Prop where
  s1 : ∀ i o, os[i]? = some o → Step1 P cf os.toList o (E i) (E (i + 1)) (H i) (H (i + 1)) (F i)
  wf : ∀ i, i ≤ os.size → HWf (H i)
  sc : ∀ i, i ≤ os.size → ESc (H i).next (E i)
  evo : ∀ i, i < os.size → AEvo (H i) (H (i + 1))
theorem get_at {i : Nat} (hi : i < os.size) : os[i]? = some os[i] := by simp [hi]
theorem facts_step (hcw : CfWf cf) {o : Oper} {e e' : Env} {h h' : Heap} {f : Foot} (h1 : Step1 P cf os.toList o e e' h h' f) (hw : HWf h) (hs : ESc h.next e) : HWf h' ∧ ESc h'.next e' ∧ AEvo h h' := by
  cases h1 with
  | skip hw' he hh hF => subst he; subst hh; exact ⟨hw, hs.put .undef _, .refl hw⟩
  | plain hw' r v hst hr he hh hF =>
    subst he; subst hh
    have hok := step_ok hw (fun x _ => ev_sc hs x) hst fun b _ x hx => (hw.ok b x hx).sc
    have hro := step_ro hst
    have hmono : ∀ t, Sc (· < (h.eff r.eff).next) (e.get t) := fun t => (hs t).mono fun b hb => Nat.lt_of_lt_of_le hb (h.next_eff _)
    rcases hr with ⟨rd, ff, rfl⟩ | ⟨rfl, rd, ff, rfl⟩
    · exact ⟨hw.eff hok.1, ESc.put hmono (hok.2.1.mono more_lt) _, AEvo.eff hw hok.1 hro⟩
    · exact ⟨hw.eff hok.1, ESc.put hmono .undef _, AEvo.eff hw hok.1 hro⟩
  | call hw' g args v q hst hc he hF =>
    subst he
    have hok := step_ok hw (fun x _ => ev_sc hs x) hst fun b _ x hx => (hw.ok b x hx).sc
    obtain ⟨k1, k2, k3, _⟩ := hcw g args h v h' q hc hw hok
    exact ⟨k1, ESc.put (fun t => (hs t).mono fun b hb => Nat.lt_of_lt_of_le hb k3.next) k2 _, k3⟩
theorem facts_of_run (hcw : CfWf cf) (hr : Run P cf os.toList os.toList E H F) (hw : HWf (H 0)) (hs : ESc (H 0).next (E 0)) : Facts P cf os E H F := by
  have st : ∀ i o, os[i]? = some o → Step1 P cf os.toList o (E i) (E (i + 1)) (H i) (H (i + 1)) (F i) := fun i o hi => step1_of_opF (hr.step i o (by simpa using hi))
  have key : ∀ i, i ≤ os.size → HWf (H i) ∧ ESc (H i).next (E i) := by
    intro i
    induction i with
    | zero => exact fun _ => ⟨hw, hs⟩
    | succ i ih =>
      intro hi
      obtain ⟨k1, k2⟩ := ih (by omega)
      obtain ⟨j1, j2, _⟩ := facts_step hcw (st i _ (get_at (by omega))) k1 k2
      exact ⟨j1, j2⟩
  exact ⟨st, fun i hi => (key i hi).1, fun i hi => (key i hi).2, fun i hi => (facts_step hcw (st i _ (get_at hi)) (key i (by omega)).1 (key i (by omega)).2).2.2⟩
theorem wr_live {o : Oper} {e : Env} {h : Heap} {r : Res} (hw : HWf h) (hs : ESc h.next e) (hst : stepOf P o e h = some r) : ∀ b ∈ r.eff.wr, b ∈ r.rd ∧ b < h.next := by
  have hok := step_ok hw (fun x _ => ev_sc hs x) hst fun b _ x hx => (hw.ok b x hx).sc
  intro b hb
  cases r with
  | val v rd f =>
    refine ⟨hok.2.2 b hb, ?_⟩
    have := live_of_ok hok.1
    cases f with
    | non => cases hb
    | new x => cases hb
    | set c x => simp [Res.eff, Eff.wr] at hb; subst hb; obtain ⟨y, hy⟩ := this; exact hw.lt _ y hy
    | mv c x => simp [Res.eff, Eff.wr] at hb; subst hb; obtain ⟨y, hy⟩ := this; exact hw.lt _ y hy
  | unit rd f =>
    refine ⟨hok.2 b hb, ?_⟩
    have := live_of_ok hok.1
    cases f with
    | non => cases hb
    | new x => cases hb
    | set c x => simp [Res.eff, Eff.wr] at hb; subst hb; obtain ⟨y, hy⟩ := this; exact hw.lt _ y hy
    | mv c x => simp [Res.eff, Eff.wr] at hb; subst hb; obtain ⟨y, hy⟩ := this; exact hw.lt _ y hy
  | enter g args => cases hb
section
variable (hf : Facts P cf os E H F)
include hf
theorem Facts.mono {i j : Nat} (hij : i ≤ j) (hj : j ≤ os.size) : (H i).next ≤ (H j).next := by
  induction j with
  | zero => have : i = 0 := by omega
            subst this; exact Nat.le_refl _
  | succ j ih =>
    by_cases he : i = j + 1
    · subst he; exact Nat.le_refl _
    · exact Nat.le_trans (ih (by omega) (by omega)) (hf.evo j (by omega)).next
theorem Facts.wr_tch {i : Nat} (hi : i < os.size) {b : Nat} (hb : Wr H F i b) : Tch H F i b ∧ b < (H i).next := by
  cases hf.s1 i _ (get_at hi) with
  | skip hw he hh hF => rw [Wr, hF] at hb; rcases hb with ⟨hb, _⟩ | hb <;> cases hb
  | plain hw r v hst hr he hh hF =>
    have hl := wr_live (hf.wf i (by omega)) (hf.sc i (by omega)) hst
    rw [Wr, hF] at hb
    rcases hb with ⟨hb, _⟩ | hb
    · cases hb
    · obtain ⟨h1, h2⟩ := hl b hb
      exact ⟨.inr (by rw [hF]; exact h1), h2⟩
  | call hw g args v q hst hc he hF =>
    rw [Wr, hF] at hb
    rcases hb with ⟨_, hb⟩ | hb
    · exact ⟨.inl ⟨by rw [hF], hb⟩, hb⟩
    · cases hb
theorem Facts.same_heap (hcw : CfWf cf) {i : Nat} (hi : i < os.size) {b : Nat} (hb : ¬ Hit H F i b) : (H (i + 1)).get b = (H i).get b := by
  have hge : ∀ {h' : Heap}, HWf h' → (H i).next ≤ b → h'.next ≤ b → h'.get b = (H i).get b := by
    intro h' hw' h1 h2
    cases hg : (H i).get b with
    | some x => have := (hf.wf i (by omega)).lt b x hg; omega
    | none =>
      cases hg' : h'.get b with
      | some x => have := hw'.lt b x hg'; omega
      | none => rfl
  cases hf.s1 i _ (get_at hi) with
  | skip hw he hh hF => rw [hh]
  | plain hw r v hst hr he hh hF =>
    rw [hh, effG_heap]
    have hnw : b ∉ r.eff.wr := fun hh' => hb (.inl (.inr (by rw [hF]; exact hh')))
    have hnm : ¬ Made H i b := fun hh' => hb (.inr hh')
    unfold Made at hnm
    rw [hh] at hnm
    cases hfe : r.eff with
    | non => rfl
    | new x =>
      rw [hfe] at hnm
      have : (Heap.eff (H i) (.new x)).next = (H i).next + 1 := rfl
      rw [this] at hnm
      simp only [effG]; rw [if_neg (by omega)]
    | set c x =>
      rw [hfe] at hnw
      simp only [effG]; rw [if_neg (fun h1 => hnw (by simp [Eff.wr, h1]))]
    | mv c x =>
      rw [hfe] at hnw hnm
      have : (Heap.eff (H i) (.mv c x)).next = (H i).next + 1 := rfl
      rw [this] at hnm
      simp only [effG]; rw [if_neg (by omega), if_neg (fun h1 => hnw (by simp [Eff.wr, h1]))]
  | call hw g args v q hst hc he hF =>
    have hok := step_ok (hf.wf i (by omega)) (fun x _ => ev_sc (hf.sc i (by omega)) x) hst fun b _ x hx => ((hf.wf i (by omega)).ok b x hx).sc
    obtain ⟨k1, k2, k3, k4⟩ := hcw g args (H i) v (H (i + 1)) q hc (hf.wf i (by omega)) hok
    by_cases hlt : b < (H i).next
    · cases q with
      | true => exact k4 rfl b hlt
      | false => exact absurd (.inl (.inl ⟨by rw [hF]; rfl, hlt⟩)) hb
    · have hnm : ¬ Made H i b := fun hh' => hb (.inr hh')
      unfold Made at hnm
      exact hge k1 (by omega) (by omega)
theorem Facts.same_env {i : Nat} {o : Oper} (hi : os[i]? = some o) {t : Tmp} (ht : o.dst ≠ some t) : (E (i + 1)).get t = (E i).get t := by
  have put : ∀ (e : Env) (v : Value), (e.put o.dst v).get t = e.get t := by
    intro e v
    cases hd : o.dst with
    | none => rfl
    | some d => rw [Env.put_some, Env.get_set_ne _ _ (fun hh => ht (by rw [hd, hh]))]
  cases hf.s1 i o hi with
  | skip hw he hh hF => rw [he, put]
  | plain hw r v hst hr he hh hF => rw [he, put]
  | call hw g args v q hst hc he hF => rw [he, put]
end

/-! ### Unordered steps -/
/-- an earlier step i and a later step j, neither waiting for the other -/
structure Free (H : Nat → Heap) (F : Nat → Foot) (i j : Nat) : Prop where
  c1 : ∀ b, Wr H F i b → ¬ Tch H F j b
  c2 : ∀ b, Wr H F j b → ¬ Tch H F i b
  c3 : ∀ b, Tch H F j b → ¬ Made H i b
theorem quiet_pair {a b : Foot} (ha : quietFoot a = true) (hb : quietFoot b = true) : pairOk a b = true := by
  simp only [quietFoot, Bool.and_eq_true, Bool.not_eq_true'] at ha hb
  obtain ⟨⟨a1, a2⟩, a3⟩ := ha
  obtain ⟨⟨b1, b2⟩, b3⟩ := hb
  have a2' : a.wr = [] := by simpa using a2
  have b2' : b.wr = [] := by simpa using b2
  have a3' : a.lo = a.hi := Nat.eq_of_beq_eq_true a3
  simp only [pairOk, a1, b1, a2', b2', apartL, List.all_nil, List.isEmpty_nil, a3', Bool.not_false, Bool.true_and, Bool.or_true, Bool.and_true, List.append_nil, List.all_eq_true]
  simp only [Nat.beq_refl, Bool.or_true, Bool.true_and, Bool.and_true, List.all_eq_true]
  intro x _
  cases hx : Nat.blt x a.hi
  · have : ¬ x < a.hi := fun h => by rw [show Nat.blt x a.hi = true from Nat.ble_eq_true_of_le h] at hx; cases hx
    rw [show Nat.ble a.hi x = true from Nat.ble_eq_true_of_le (by omega)]; rfl
  · rfl
theorem foot_lohi (hf : Facts P cf os E H F) {i : Nat} (hi : i < os.size) : (F i).lo = (H i).next ∧ (F i).hi = (H (i + 1)).next := by
  cases hf.s1 i _ (get_at hi) with
  | skip hw he hh hF => rw [hF, hh]; exact ⟨rfl, rfl⟩
  | plain hw r v hst hr he hh hF => rw [hF, hh]; exact ⟨rfl, rfl⟩
  | call hw g args v q hst hc he hF => rw [hF]; exact ⟨rfl, rfl⟩
theorem apartL_no {a b : List Nat} (h : apartL a b = true) {x : Nat} (ha : x ∈ a) (hb : x ∈ b) : False := by
  have := List.all_eq_true.1 (List.all_eq_true.1 h x ha) x hb
  simp at this
theorem free_of_pair (hf : Facts P cf os E H F) {i j : Nat} (hi : i < os.size) (hj : j < os.size) (h : pairOk (F i) (F j) = true) : Free H F i j := by
  obtain ⟨l1, l2⟩ := foot_lohi hf hi
  simp only [pairOk, Bool.and_eq_true, Bool.not_eq_true', Bool.or_eq_true] at h
  obtain ⟨⟨⟨⟨⟨⟨h1, h2⟩, h3⟩, h4⟩, h5⟩, h6⟩, h7⟩ := h
  refine ⟨fun b hb ht => ?_, fun b hb ht => ?_, fun b ht hm => ?_⟩
  · rcases hb with ⟨hb, _⟩ | hb
    · rw [h1] at hb; cases hb
    · rcases ht with ⟨ht, _⟩ | ht
      · rcases h6 with h6 | h6
        · rw [ht] at h6; cases h6
        · have : (F i).wr = [] := by simpa using h6.1
          rw [this] at hb; cases hb
      · exact apartL_no h3 hb (List.mem_append_left _ ht)
  · rcases hb with ⟨hb, _⟩ | hb
    · rw [h2] at hb; cases hb
    · rcases ht with ⟨ht, _⟩ | ht
      · rcases h5 with h5 | h5
        · rw [ht] at h5; cases h5
        · have : (F j).wr = [] := by simpa using h5
          rw [this] at hb; cases hb
      · exact apartL_no h4 hb (List.mem_append_left _ ht)
  · unfold Made at hm
    rcases ht with ⟨ht, _⟩ | ht
    · rcases h6 with h6 | h6
      · rw [ht] at h6; cases h6
      · have : (F i).lo = (F i).hi := Nat.eq_of_beq_eq_true h6.2
        omega
    · have := List.all_eq_true.1 h7 b (List.mem_append_left _ ht)
      simp only [Bool.or_eq_true] at this
      rcases this with hh | hh
      · have := lt_of_blt hh; omega
      · have := Nat.le_of_ble_eq_true hh; omega
/-- what the kinds alone tell -/
theorem kind_foot (hf : Facts P cf os E H F) {i : Nat} {o : Oper} (ho : os[i]? = some o) :
    (kindOf o.op ≤ 2 → ∀ b, ¬ Wr H F i b) ∧ (kindOf o.op ≤ 1 → ∀ b, ¬ Tch H F i b) ∧ (kindOf o.op = 0 ∨ kindOf o.op = 2 → ∀ b, ¬ Made H i b) := by
  have hlt : i < os.size := by
    rcases Nat.lt_or_ge i os.size with h | h
    · exact h
    · rw [Array.getElem?_eq_none h] at ho; cases ho
  cases hf.s1 i o ho with
  | skip hw he hh hF =>
    refine ⟨fun _ b hb => ?_, fun _ b hb => ?_, fun _ b hb => ?_⟩
    · rw [Wr, hF] at hb; rcases hb with ⟨hb, _⟩ | hb <;> cases hb
    · rw [Tch, hF] at hb; rcases hb with ⟨hb, _⟩ | hb <;> cases hb
    · unfold Made at hb; rw [hh] at hb; omega
  | plain hw r v hst hr he hh hF =>
    rcases shape hst with ⟨hk, u, rfl⟩ | ⟨hk, u, x, rfl, hx⟩ | ⟨hk, u, rd, rfl⟩ | ⟨hk, hro⟩
    · refine ⟨fun _ b hb => ?_, fun _ b hb => ?_, fun _ b hb => ?_⟩
      · rw [Wr, hF] at hb; rcases hb with ⟨hb, _⟩ | hb <;> cases hb
      · rw [Tch, hF] at hb; rcases hb with ⟨hb, _⟩ | hb <;> cases hb
      · unfold Made at hb; rw [hh] at hb; simp only [Res.eff, Heap.eff] at hb; omega
    · refine ⟨fun _ b hb => ?_, fun _ b hb => ?_, fun hk' b hb => by omega⟩
      · rw [Wr, hF] at hb; rcases hb with ⟨hb, _⟩ | hb <;> cases hb
      · rw [Tch, hF] at hb; rcases hb with ⟨hb, _⟩ | hb <;> cases hb
    · refine ⟨fun _ b hb => ?_, fun hk' b hb => by omega, fun _ b hb => ?_⟩
      · rw [Wr, hF] at hb; rcases hb with ⟨hb, _⟩ | hb <;> cases hb
      · unfold Made at hb; rw [hh] at hb; simp only [Res.eff, Heap.eff] at hb; omega
    · exact ⟨fun hk' => by omega, fun hk' => by omega, fun hk' => by omega⟩
  | call hw g args v q hst hc he hF =>
    have hk : kindOf o.op = 3 := by
      rcases shape hst with ⟨hk, u, hh⟩ | ⟨hk, u, x, hh, hx⟩ | ⟨hk, u, rd, hh⟩ | ⟨hk, hro⟩
      · cases hh
      · cases hh
      · cases hh
      · exact hk
    exact ⟨fun hk' => by omega, fun hk' => by omega, fun hk' => by omega⟩
theorem kind_le (o : Op) : kindOf o ≤ 3 := by unfold kindOf; split <;> omega
theorem free_of_kinds (hf : Facts P cf os E H F) {i j : Nat} {x y : Oper} (hi : os[i]? = some x) (hj : os[j]? = some y) (hn : needs (kindOf x.op) (kindOf y.op) = false) : Free H F i j := by
  obtain ⟨i1, i2, i3⟩ := kind_foot hf hi
  obtain ⟨j1, j2, j3⟩ := kind_foot hf hj
  have hx := kind_le x.op
  have hy := kind_le y.op
  revert hn i1 i2 i3 j1 j2 j3 hx hy
  generalize kindOf x.op = a
  generalize kindOf y.op = b
  intro hn i1 i2 i3 j1 j2 j3 hx hy
  have hcase : (a = 0) ∨ (b = 0) ∨ (b = 1) ∨ (a = 2 ∧ b = 2) := by
    have ha : a = 0 ∨ a = 1 ∨ a = 2 ∨ a = 3 := by omega
    have hb : b = 0 ∨ b = 1 ∨ b = 2 ∨ b = 3 := by omega
    rcases ha with rfl | rfl | rfl | rfl <;> rcases hb with rfl | rfl | rfl | rfl <;> first | (cases hn; done) | omega
  refine ⟨fun c hb ht => ?_, fun c hb ht => ?_, fun c ht hm => ?_⟩
  · rcases hcase with h | h | h | h
    · exact i1 (by omega) c hb
    · exact j2 (by omega) c ht
    · exact j2 (by omega) c ht
    · exact i1 (by omega) c hb
  · rcases hcase with h | h | h | h
    · exact i2 (by omega) c ht
    · exact j1 (by omega) c hb
    · exact j1 (by omega) c hb
    · exact j1 (by omega) c hb
  · rcases hcase with h | h | h | h
    · exact i3 (by omega) c hm
    · exact j2 (by omega) c ht
    · exact j2 (by omega) c ht
    · exact i3 (by omega) c hm
end
end Go.Am
