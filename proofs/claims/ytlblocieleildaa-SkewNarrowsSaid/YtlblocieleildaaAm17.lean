/- Operations whose order is left open: what a key holds while some of them are done, against the run in the order of the text. -/
import Derived.Test.YtlblocieleildaaAm16
set_option linter.unusedVariables false
set_option linter.unusedSimpArgs false
set_option linter.unusedSectionVars false
namespace Go.Am
open Go.RowKit

/-- closed under what is waited for -/
def DC (os : Array Oper) (S : Nat → Bool) : Prop := ∀ (j : Nat) (o : Oper) (e : Edge), os[j]? = some o → S j = true → e ∈ o.after → Region.binds .any e = true → S e.on = true
def Cmp (os : Array Oper) (H : Nat → Heap) (F : Nat → Foot) (i j : Nat) : Prop :=
  (∀ S, DC os S → S j = true → S i = true) ∨ ∃ x y, os[i]? = some x ∧ os[j]? = some y ∧ x.apart os y = true ∧ Free H F i j
def HitE (os : Array Oper) (t k : Nat) : Prop := ∃ o, os[k]? = some o ∧ o.dst = some t
noncomputable def VE (os : Array Oper) (E : Nat → Env) (L : Nat → Bool) (t : Nat) : Value := KV (fun k => (E k).get t) (HitE os t) L os.size
noncomputable def VH (os : Array Oper) (H : Nat → Heap) (F : Nat → Foot) (L : Nat → Bool) (b : Nat) : Option Blk := KV (fun k => (H k).get b) (fun k => Hit H F k b) L os.size
def pL (os : Array Oper) (H : Nat → Heap) (L : Nat → Bool) (c : Nat) : Prop := c < (H 0).next ∨ ∃ j, j < os.size ∧ L j = true ∧ Made H j c
def plus (L : Nat → Bool) (i : Nat) : Nat → Bool := fun k => L k || Nat.beq k i
theorem plus_ne {L : Nat → Bool} {i k : Nat} (h : k ≠ i) : plus L i k = L k := by
  have : Nat.beq k i = false := by cases hh : Nat.beq k i; · rfl
                                   · exact absurd (Nat.eq_of_beq_eq_true hh) h
  simp [plus, this]
theorem plus_same {L : Nat → Bool} {i : Nat} : plus L i i = true := by simp [plus]

section
variable {P : Program} {cf : CallF} {os : Array Oper} {E : Nat → Env} {H : Nat → Heap} {F : Nat → Foot} {L : Nat → Bool} {i : Nat}
theorem KV_none {α : Type} {x : Nat → α} {hit : Nat → Prop} : ∀ {n : Nat}, KV x hit (fun _ => false) n = x 0
  | 0 => rfl
  | n + 1 => by unfold KV; rw [if_neg (fun q => by cases q.1)]; exact KV_none
theorem VE_at (hf : Facts P cf os E H F) {t : Nat} (ha : ∀ k, k < os.size → HitE os t k → L k = decide (k < i)) (hi : i ≤ os.size) : VE os E L t = (E i).get t := by
  unfold VE
  rw [KV_agree ha]
  exact KV_run (fun k hk hn => hf.same_env (get_at hk) (fun hd => hn ⟨_, get_at hk, hd⟩)) i hi
theorem VH_at (hf : Facts P cf os E H F) (hcw : CfWf cf) {b : Nat} (ha : ∀ k, k < os.size → Hit H F k b → L k = decide (k < i)) (hi : i ≤ os.size) : VH os H F L b = (H i).get b := by
  unfold VH
  rw [KV_agree ha]
  exact KV_run (fun k hk hn => hf.same_heap hcw hk hn) i hi
theorem VE_plus {t : Nat} (hn : ¬ HitE os t i) : VE os E (plus L i) t = VE os E L t := KV_agree fun k _ hk => plus_ne fun he => hn (he ▸ hk)
theorem VH_plus {b : Nat} (hn : ¬ Hit H F i b) : VH os H F (plus L i) b = VH os H F L b := KV_agree fun k _ hk => plus_ne fun he => hn (he ▸ hk)
/-- i is next -/
structure Next1 (os : Array Oper) (L : Nat → Bool) (i : Nat) : Prop where
  lt : i < os.size
  dc : DC os L
  dc' : DC os (plus L i)
  no : L i = false
def AllCmp (os : Array Oper) (H : Nat → Heap) (F : Nat → Foot) : Prop := ∀ i j, i < j → j < os.size → Cmp os H F i j
section
variable (hn : Next1 os L i) (hc : AllCmp os H F)
include hn hc
/-- another operation is done just if it comes before, or it is free of i -/
theorem other {k : Nat} (hk : k < os.size) (hne : k ≠ i) : L k = decide (k < i) ∨
    (k < i ∧ ∃ x y, os[k]? = some x ∧ os[i]? = some y ∧ x.apart os y = true ∧ Free H F k i) ∨ (i < k ∧ ∃ x y, os[i]? = some x ∧ os[k]? = some y ∧ x.apart os y = true ∧ Free H F i k) := by
  rcases Nat.lt_or_gt_of_ne hne with h | h
  · rcases hc k i h hn.lt with h1 | h1
    · have := h1 _ hn.dc' plus_same
      rw [plus_ne hne] at this
      exact .inl (by simp [this, h])
    · exact .inr (.inl ⟨h, h1⟩)
  · rcases hc i k h hk with h1 | h1
    · refine .inl ?_
      have : ¬ k < i := by omega
      simp only [this, decide_false]
      cases hh : L k
      · rfl
      · have := h1 _ hn.dc hh
        rw [hn.no] at this; cases this
    · exact .inr (.inr ⟨h, h1⟩)
theorem slot_agree {o : Oper} (ho : os[i]? = some o) {t : Nat} (ht : t ∈ o.looksAt os ∨ o.dst = some t) {k : Nat} (hk : k < os.size) (hh : HitE os t k) : L k = decide (k < i) := by
  by_cases hne : k = i
  · subst hne; simp [hn.no]
  · obtain ⟨x, hx, hd⟩ := hh
    rcases other hn hc hk hne with h | ⟨_, x', y, h1, h2, h3, _⟩ | ⟨_, x', y, h1, h2, h3, _⟩
    · exact h
    · rw [hx] at h1; cases h1
      rw [ho] at h2; cases h2
      obtain ⟨a1, a2, a3⟩ := Oper.apart_spec h3
      rcases ht with ht | ht
      · exact absurd ht (a1 t hd)
      · exact absurd ht (a2 t hd)
    · rw [hx] at h2; cases h2
      rw [ho] at h1; cases h1
      obtain ⟨a1, a2, a3⟩ := Oper.apart_spec h3
      rcases ht with ht | ht
      · exact absurd ht (a3 t hd)
      · exact absurd hd (a2 t ht)
theorem slot_agree' {o : Oper} (ho : os[i]? = some o) {t : Nat} (ht : o.dst = some t) {k : Nat} (hk : k < os.size) (hh : HitE os t k) : plus L i k = decide (k < i + 1) := by
  by_cases hne : k = i
  · subst hne; simp [plus_same]
  · rw [plus_ne hne, slot_agree hn hc ho (.inr ht) hk hh]
    have : k < i ↔ k < i + 1 := by omega
    simp [this]
theorem heap_agree (hf : Facts P cf os E H F) {b : Nat} (hb : (Tch H F i b ∧ b < (H i).next) ∨ Made H i b) {k : Nat} (hk : k < os.size) (hh : Hit H F k b) : L k = decide (k < i) := by
  by_cases hne : k = i
  · subst hne; simp [hn.no]
  · rcases other hn hc hk hne with h | ⟨hlt, x', y, _, _, _, h3⟩ | ⟨hlt, x', y, _, _, _, h3⟩
    · exact h
    · exfalso
      have hmon := hf.mono (i := k + 1) (j := i) hlt (Nat.le_of_lt hn.lt)
      rcases hh with hw | hm
      · rcases hb with ⟨hb, _⟩ | hb
        · exact h3.c1 b hw hb
        · have := (hf.wr_tch hk hw).2
          have := hf.mono (i := k) (j := k + 1) (by omega) (by omega)
          have := hb.1
          omega
      · rcases hb with ⟨hb, _⟩ | hb
        · exact h3.c3 b hb hm
        · have := hb.1; have := hm.2; omega
    · exfalso
      have hmon := hf.mono (i := i + 1) (j := k) hlt (Nat.le_of_lt hk)
      have hmon' := hf.mono (i := i) (j := i + 1) (by omega) hn.lt
      rcases hh with hw | hm
      · rcases hb with ⟨hb, _⟩ | hb
        · exact h3.c2 b hw hb
        · exact h3.c3 b (hf.wr_tch hk hw).1 hb
      · rcases hb with ⟨_, hb⟩ | hb
        · have := hm.1; omega
        · have := hb.2; have := hm.1; omega
theorem heap_agree' (hf : Facts P cf os E H F) {b : Nat} (hb : (Tch H F i b ∧ b < (H i).next) ∨ Made H i b) {k : Nat} (hk : k < os.size) (hh : Hit H F k b) : plus L i k = decide (k < i + 1) := by
  by_cases hne : k = i
  · subst hne; simp [plus_same]
  · rw [plus_ne hne, heap_agree hn hc hf hb hk hh]
    have : k < i ↔ k < i + 1 := by omega
    simp [this]
/-- what step i looks at is as in the run -/
theorem VE_now (hf : Facts P cf os E H F) {o : Oper} (ho : os[i]? = some o) {t : Nat} (ht : t ∈ o.looksAt os ∨ o.dst = some t) : VE os E L t = (E i).get t :=
  VE_at hf (fun _ hk hh => slot_agree hn hc ho ht hk hh) (Nat.le_of_lt hn.lt)
theorem VE_then (hf : Facts P cf os E H F) {o : Oper} (ho : os[i]? = some o) {t : Nat} (ht : o.dst = some t) : VE os E (plus L i) t = (E (i + 1)).get t :=
  VE_at hf (fun _ hk hh => slot_agree' hn hc ho ht hk hh) hn.lt
theorem VH_now (hf : Facts P cf os E H F) (hcw : CfWf cf) {b : Nat} (hb : (Tch H F i b ∧ b < (H i).next) ∨ Made H i b) : VH os H F L b = (H i).get b :=
  VH_at hf hcw (fun _ hk hh => heap_agree hn hc hf hb hk hh) (Nat.le_of_lt hn.lt)
theorem VH_then (hf : Facts P cf os E H F) (hcw : CfWf cf) {b : Nat} (hb : (Tch H F i b ∧ b < (H i).next) ∨ Made H i b) : VH os H F (plus L i) b = (H (i + 1)).get b :=
  VH_at hf hcw (fun _ hk hh => heap_agree' hn hc hf hb hk hh) hn.lt
theorem VE_put (hf : Facts P cf os E H F) {o : Oper} (ho : os[i]? = some o) {v : Value} (he : E (i + 1) = (E i).put o.dst v) (t : Nat) : VE os E (plus L i) t = if o.dst = some t then v else VE os E L t := by
  by_cases hd : o.dst = some t
  · rw [if_pos hd, VE_then hn hc hf ho hd, he, hd, Env.put_some, Env.get_set, if_pos rfl]
  · rw [if_neg hd]
    exact VE_plus fun ⟨x, hx, hxd⟩ => by rw [ho] at hx; cases hx; exact hd hxd
theorem pL_not_made (hf : Facts P cf os E H F) {c : Nat} (h : pL os H L c) : ¬ Made H i c := by
  intro hm
  rcases h with h | ⟨j, hj, hl, hm'⟩
  · have := hf.mono (i := 0) (j := i) (Nat.zero_le _) (Nat.le_of_lt hn.lt)
    have := hm.1; omega
  · rcases Nat.lt_or_gt_of_ne (show j ≠ i from fun he => by subst he; rw [hn.no] at hl; cases hl) with h | h
    · have := hf.mono (i := j + 1) (j := i) h (Nat.le_of_lt hn.lt)
      have := hm.1; have := hm'.2; omega
    · have := hf.mono (i := i + 1) (j := j) h (Nat.le_of_lt hj)
      have := hm.2; have := hm'.1; omega
end
theorem pL_plus {c : Nat} (hlt : i < os.size) : pL os H (plus L i) c ↔ pL os H L c ∨ Made H i c := by
  constructor
  · rintro (h | ⟨j, hj, hl, hm⟩)
    · exact .inl (.inl h)
    · by_cases hji : j = i
      · subst hji; exact .inr hm
      · rw [plus_ne hji] at hl; exact .inl (.inr ⟨j, hj, hl, hm⟩)
  · rintro ((h | ⟨j, hj, hl, hm⟩) | h)
    · exact .inl h
    · exact .inr ⟨j, hj, by simp [plus, hl], hm⟩
    · exact .inr ⟨i, hlt, plus_same, h⟩
end
end Go.Am
