/- The abstract machine keeps its own heap in order: code whole, and leaving a call. -/
import Derived.Test.YtlnjhllfacmkoaaGreatAm19
set_option linter.unusedVariables false
set_option linter.unusedSimpArgs false
set_option linter.unusedSectionVars false
namespace Go.Am
open Go.RowKit

structure Wf2 (e : Env) (h : Heap) (e' : Env) (h' : Heap) : Prop where
  wf : HWf h'
  sc : ESc h'.next e'
  evo : AEvo h h'
theorem Wf2.refl {e : Env} {h : Heap} (hw : HWf h) (hs : ESc h.next e) : Wf2 e h e h := ⟨hw, hs, .refl hw⟩
theorem Wf2.trans {e e1 e2 : Env} {h h1 h2 : Heap} (a : Wf2 e h e1 h1) (b : Wf2 e1 h1 e2 h2) : Wf2 e h e2 h2 := ⟨b.wf, b.sc, a.evo.trans b.evo⟩
section
variable {P : Program} {cf : CallF} {os : List Oper} {D : Draws}
theorem op1_opF {o : Oper} {k : Env → Heap → Option (Env × Heap)} {e : Env} {h : Heap} {r : Env × Heap} (hr : op1 P cf os o k e h = some r) : ∃ e1 h1 f, opF P cf os o e h = some (e1, h1, f) ∧ k e1 h1 = some r := by
  unfold op1 at hr
  unfold opF
  cases hw : wantedA os o e with
  | none => rw [hw] at hr; cases hr
  | some b =>
    rw [hw] at hr
    cases b with
    | false => exact ⟨_, _, _, rfl, hr⟩
    | true =>
      dsimp only at hr ⊢
      cases hs : stepOf P o e h with
      | none => rw [hs] at hr; cases hr
      | some r' =>
        rw [hs] at hr
        cases r' with
        | val v rd f => exact ⟨_, _, _, rfl, hr⟩
        | unit rd f => exact ⟨_, _, _, rfl, hr⟩
        | enter g args =>
          have hr : (match cf g args h with | some (v, h', _) => k (e.put o.dst v) h' | none => none) = some r := hr
          dsimp only
          cases hc : cf g args h with
          | none => rw [hc] at hr; cases hr
          | some vhq =>
            obtain ⟨v, h', q⟩ := vhq
            rw [hc] at hr
            exact ⟨_, _, _, rfl, hr⟩
theorem opF_wf (hcw : CfWf cf) {o : Oper} {e e' : Env} {h h' : Heap} {f : Foot} (hr : opF P cf os o e h = some (e', h', f)) (hw : HWf h) (hs : ESc h.next e) : Wf2 e h e' h' := by
  obtain ⟨h1, h2, h3⟩ := facts_step hcw (step1_of_opF hr) hw hs
  exact ⟨h1, h2, h3⟩
theorem ops_wf (hcw : CfWf cf) : ∀ (l : List Oper) {e e' : Env} {h h' : Heap}, ops P cf os l e h = some (e', h') → HWf h → ESc h.next e → Wf2 e h e' h'
  | [], _, _, _, _, hr, hw, hs => by cases hr; exact .refl hw hs
  | o :: l, _, _, _, _, hr, hw, hs => by
    obtain ⟨e1, h1, f, k1, k2⟩ := op1_opF hr
    have a := opF_wf hcw k1 hw hs
    exact a.trans (ops_wf hcw l k2 a.wf a.sc)
theorem opsF_wf (hcw : CfWf cf) : ∀ (l : List Oper) {e e' : Env} {h h' : Heap} {fs : List Foot}, opsF P cf os l e h = some (e', h', fs) → HWf h → ESc h.next e → Wf2 e h e' h'
  | [], _, _, _, _, _, hr, hw, hs => by cases hr; exact .refl hw hs
  | o :: l, e, e', h, h', fs, hr, hw, hs => by
    unfold opsF at hr
    cases h1 : opF P cf os o e h with
    | none => rw [h1] at hr; cases hr
    | some r1 =>
      obtain ⟨e1, hh1, f1⟩ := r1
      rw [h1] at hr
      dsimp only at hr
      cases h2 : opsF P cf os l e1 hh1 with
      | none => rw [h2] at hr; cases hr
      | some r2 =>
        obtain ⟨e2, hh2, fs2⟩ := r2
        rw [h2] at hr
        cases hr
        have a := opF_wf hcw h1 hw hs
        exact a.trans (opsF_wf hcw l h2 a.wf a.sc)
theorem seqK_inv {k : Env → Heap → Out} {o : Out} {x : AExit} {e : Env} {h : Heap} (hr : seqK k o = some (x, e, h)) : (∃ e1 h1, o = some (.normal, e1, h1) ∧ k e1 h1 = some (x, e, h)) ∨ (x ≠ .normal ∧ o = some (x, e, h)) := by
  cases o with
  | none => cases hr
  | some r =>
    obtain ⟨y, e1, h1⟩ := r
    cases y with
    | normal => exact .inl ⟨e1, h1, rfl, hr⟩
    | exit id => cases hr; exact .inr ⟨(by intro h; cases h), rfl⟩
    | ret => cases hr; exact .inr ⟨(by intro h; cases h), rfl⟩
theorem condK_inv {t f : Env → Heap → Out} {e : Env} {h : Heap} {v : Value} {r : AExit × Env × Heap} (hr : condK t f e h v = some r) : ∃ b, v = .bool b ∧ (if b then t e h else f e h) = some r := by
  cases v <;> first | (cases hr; done) | skip
  rename_i b
  exact ⟨b, rfl, by cases b <;> exact hr⟩
theorem blockK_inv {id : Nat} {o : Out} {x : AExit} {e : Env} {h : Heap} (hr : blockK id o = some (x, e, h)) : ∃ y, o = some (y, e, h) ∧ ((y = .exit id ∧ x = .normal) ∨ (y ≠ .exit id ∧ x = y)) := by
  cases o with
  | none => cases hr
  | some r =>
    obtain ⟨y, e1, h1⟩ := r
    cases y with
    | normal => cases hr; exact ⟨_, rfl, .inr ⟨(by intro h; cases h), rfl⟩⟩
    | ret => cases hr; exact ⟨_, rfl, .inr ⟨(by intro h; cases h), rfl⟩⟩
    | exit id' =>
      simp only [blockK] at hr
      cases hb : Nat.beq id' id
      · rw [hb] at hr; cases hr
        exact ⟨_, rfl, .inr ⟨fun h => by cases h; simp at hb, rfl⟩⟩
      · rw [hb] at hr; cases hr
        have := Nat.eq_of_beq_eq_true hb
        subst this
        exact ⟨_, rfl, .inl ⟨rfl, rfl⟩⟩
theorem regK_inv {o : Option (Env × Heap)} {x : AExit} {e : Env} {h : Heap} (hr : regK o = some (x, e, h)) : x = .normal ∧ o = some (e, h) := by
  cases o with
  | none => cases hr
  | some r => cases hr; exact ⟨rfl, rfl⟩
theorem drawK_inv {d : Option (List (Nat × Nat))} {o : Option (Env × Heap × List Foot)} {x : AExit} {e : Env} {h : Heap} (hr : drawK d o = some (x, e, h)) : x = .normal ∧ ∃ fs, o = some (e, h, fs) ∧ drawOk d fs = true := by
  cases o with
  | none => cases hr
  | some r =>
    obtain ⟨e1, h1, fs⟩ := r
    simp only [drawK] at hr
    cases hd : drawOk d fs
    · rw [hd] at hr; cases hr
    · rw [hd] at hr; cases hr; exact ⟨rfl, fs, rfl, hd⟩
theorem exec_wf (hcw : CfWf cf) : ∀ (n : Nat) (c : Code) {e e' : Env} {h h' : Heap} {x : AExit}, exec P D cf n c e h = some (x, e', h') → HWf h → ESc h.next e → Wf2 e h e' h' := by
  intro n
  induction n with
  | zero => intro c e e' h h' x hr; cases hr
  | succ n ih =>
    intro c e e' h h' x hr hw hs
    cases c with
    | skip => cases hr; exact .refl hw hs
    | label l => cases hr; exact .refl hw hs
    | ret => cases hr; exact .refl hw hs
    | exit id => cases hr; exact .refl hw hs
    | seq a b =>
      rcases seqK_inv hr with ⟨e1, h1, k1, k2⟩ | ⟨_, k1⟩
      · have z := ih a k1 hw hs
        exact z.trans (ih b k2 z.wf z.sc)
      · exact ih a k1 hw hs
    | cond c t f =>
      obtain ⟨b, _, k⟩ := condK_inv hr
      cases b
      · exact ih f k hw hs
      · exact ih t k hw hs
    | block id b =>
      obtain ⟨y, k, _⟩ := blockK_inv hr
      exact ih b k hw hs
    | loop b =>
      rcases seqK_inv hr with ⟨e1, h1, k1, k2⟩ | ⟨_, k1⟩
      · have z := ih b k1 hw hs
        exact z.trans (ih (.loop b) k2 z.wf z.sc)
      · exact ih b k1 hw hs
    | scope b => exact ih b hr hw hs
    | region id os draw =>
      cases draw
      · obtain ⟨_, k⟩ := regK_inv hr
        exact ops_wf hcw _ k hw hs
      · obtain ⟨_, fs, k, _⟩ := drawK_inv hr
        exact opsF_wf hcw _ k hw hs
    | rangeFunc _ _ _ _ => cases hr
    | goto _ => cases hr
    | refuse _ => cases hr
end

/-! ### Leaving a call -/
theorem AEvo.to_low {h h1 : Heap} (k : AEvo (h.low h.next) h1) {n : Nat} (hn : n ≤ h1.wr) (hn' : n ≤ h.wr) : AEvo h (h1.low n) :=
  ⟨k.next, k.old, k.new, hn', fun b hb hlt => k.wr b (Nat.lt_of_lt_of_le hb hn) hlt⟩
theorem ren1_inv {base b b' : Nat} {v v' : Value} (h : ren1 base b b' v = some v') :
    (flat v = true ∧ v' = v) ∨ (∃ c o, v = .pointer (some ⟨c, o, none⟩) ∧ ((c < base ∧ v' = v) ∨ (c = b ∧ v' = .pointer (some ⟨b', o, none⟩)))) ∨
    (∃ c o n k, v = .slice (some ⟨c, o, none⟩) n k ∧ ((c < base ∧ v' = v) ∨ (c = b ∧ v' = .slice (some ⟨b', o, none⟩) n k))) := by
  unfold ren1 at h
  split at h
  · rename_i c o n k
    refine .inr (.inr ⟨c, o, n, k, rfl, ?_⟩)
    cases h1 : Nat.blt c base
    · rw [h1] at h
      cases h2 : Nat.beq c b
      · rw [h2] at h; cases h
      · rw [h2] at h; cases h; exact .inr ⟨Nat.eq_of_beq_eq_true h2, rfl⟩
    · rw [h1] at h; cases h; exact .inl ⟨lt_of_blt h1, rfl⟩
  · rename_i c o
    refine .inr (.inl ⟨c, o, rfl, ?_⟩)
    cases h1 : Nat.blt c base
    · rw [h1] at h
      cases h2 : Nat.beq c b
      · rw [h2] at h; cases h
      · rw [h2] at h; cases h; exact .inr ⟨Nat.eq_of_beq_eq_true h2, rfl⟩
    · rw [h1] at h; cases h; exact .inl ⟨lt_of_blt h1, rfl⟩
  · cases h1 : flat v
    · rw [h1] at h; cases h
    · rw [h1] at h; cases h; exact .inl ⟨rfl, rfl⟩
inductive RenAll (base b b' : Nat) : List Value → List Value → Prop
  | nil : RenAll base b b' [] []
  | cons {v v' : Value} {r r' : List Value} (h : ren1 base b b' v = some v') (hr : RenAll base b b' r r') : RenAll base b b' (v :: r) (v' :: r')
theorem renAll_inv {base b b' : Nat} : ∀ {l l' : List Value}, renAll base b b' l = some l' → RenAll base b b' l l'
  | [], l', h => by cases h; exact .nil
  | v :: r, l', h => by
    unfold renAll at h
    cases h1 : ren1 base b b' v with
    | none => rw [h1] at h; cases h
    | some v1 =>
      rw [h1] at h
      simp only [Option.bind_some] at h
      cases h2 : renAll base b b' r with
      | none => rw [h2] at h; cases h
      | some r1 => rw [h2] at h; cases h; exact .cons h1 (renAll_inv h2)
theorem newRef_ge {base b : Nat} {v : Value} (h : b ∈ newRef base v) : base ≤ b := by
  unfold newRef at h
  split at h
  · rename_i c o p n k
    cases hh : Nat.ble base c
    · rw [hh] at h; cases h
    · rw [hh] at h; simp at h; subst h; exact Nat.le_of_ble_eq_true hh
  · rename_i c o p
    cases hh : Nat.ble base c
    · rw [hh] at h; cases h
    · rw [hh] at h; simp at h; subst h; exact Nat.le_of_ble_eq_true hh
  · cases h
/-- the ways of leaving -/
inductive Left (h h1 : Heap) (vs : List Value) : Value → Heap → Bool → Prop
  | flat (hw : h1.wr = h.next) (hf : ∀ v ∈ vs, Am.flat v = true) : Left h h1 vs (packR vs) h true
  | old (vs' : List Value) (hw : h1.wr = h.next) (hn : ∀ v ∈ vs, ∀ b ∈ newRef h.next v, False) (hr : RenAll h.next h.next h.next vs vs') : Left h h1 vs (packR vs') h true
  | one (vs' : List Value) (hw : h1.wr = h.next) (b : Nat) (blk : Blk) (hb : h1.get b = some blk) (hge : h.next ≤ b) (hfl : blk.flat = true) (hr : RenAll h.next b h.next vs vs') : Left h h1 vs (packR vs') (h.alloc blk) true
  | all (hw : h1.wr = h.next) : Left h h1 vs (packR vs) (h1.low h.wr) true
  | any (n : Nat) (h1n : n ≤ h1.wr) (h2n : n ≤ h.wr) : Left h h1 vs (packR vs) (h1.low n) false
theorem left_of {h h1 : Heap} {vs : List Value} {v : Value} {h' : Heap} {q : Bool} (hl : leave h h1 vs = (v, h', q)) : Left h h1 vs v h' q := by
  unfold leave at hl
  cases hw : Nat.beq h1.wr h.next
  · rw [hw] at hl
    cases hl
    refine .any _ ?_ ?_ <;> split <;> omega
  · rw [hw] at hl
    have hw := Nat.eq_of_beq_eq_true hw
    simp only [cond_true] at hl
    cases hd : dropNew h h1 vs with
    | none => rw [hd] at hl; cases hl; exact .all hw
    | some r =>
      obtain ⟨vs', h2⟩ := r
      rw [hd] at hl
      cases hl
      unfold dropNew at hd
      cases hfl : vs.all Am.flat
      · rw [hfl] at hd
        simp only [cond_false] at hd
        cases hm : vs.flatMap (newRef h.next) with
        | nil =>
          rw [hm] at hd
          dsimp only at hd
          cases hr : renAll h.next h.next h.next vs with
          | none => rw [hr] at hd; cases hd
          | some vs2 =>
            rw [hr] at hd
            cases hd
            refine .old _ hw (fun v hv b hb => ?_) (renAll_inv hr)
            have : b ∈ vs.flatMap (newRef h.next) := List.mem_flatMap.2 ⟨v, hv, hb⟩
            rw [hm] at this; cases this
        | cons b rest =>
          rw [hm] at hd
          dsimp only at hd
          have hb : b ∈ vs.flatMap (newRef h.next) := by rw [hm]; simp
          obtain ⟨v, _, hv⟩ := List.mem_flatMap.1 hb
          unfold keepNew at hd
          cases hg : h1.get b with
          | none => rw [hg] at hd; cases hd
          | some blk =>
            rw [hg] at hd
            dsimp only at hd
            cases hbf : blk.flat
            · rw [hbf] at hd; cases hd
            · rw [hbf] at hd
              simp only [cond_true] at hd
              cases hr : renAll h.next b h.next vs with
              | none => rw [hr] at hd; cases hd
              | some vs2 =>
                rw [hr] at hd
                cases hd
                exact .one _ hw b blk hg (newRef_ge hv) hbf (renAll_inv hr)
      · rw [hfl] at hd
        cases hd
        exact .flat hw fun v hv => List.all_eq_true.1 hfl v hv
theorem Sc.pack {p : Nat → Prop} {vs : List Value} (h : ∀ v ∈ vs, Sc p v) : Sc p (packR vs) := by
  unfold packR
  split
  · rename_i v; exact h v (by simp)
  · exact .mk_tuple (by simpa using h)
theorem RenAll.sc {base b b' n : Nat} {l l' : List Value} (h : RenAll base b b' l l') (hb : base ≤ n) (hb' : b' < n ∨ ∀ v ∈ l, ∀ c ∈ newRef base v, False) (hbb : base ≤ b) : ∀ v ∈ l', Sc (· < n) v := by
  induction h with
  | nil => intro v hv; cases hv
  | @cons v v' r r' h1 hr ih =>
    intro u hu
    rcases List.mem_cons.1 hu with rfl | hu
    · rcases ren1_inv h1 with ⟨k1, k2⟩ | ⟨c, o, k1, ⟨k2, k3⟩ | ⟨k2, k3⟩⟩ | ⟨c, o, n', k', k1, ⟨k2, k3⟩ | ⟨k2, k3⟩⟩
      · rw [k2]; exact .of_flat k1
      · rw [k3, k1]; exact .ptr _ _ (Nat.lt_of_lt_of_le k2 hb)
      · rw [k3]
        rcases hb' with hb' | hb'
        · exact .ptr _ _ hb'
        · exact (hb' v (by simp) c (by rw [k1, k2]; simp [newRef, Nat.ble_eq_true_of_le hbb])).elim
      · rw [k3, k1]; exact .sl _ _ _ _ (Nat.lt_of_lt_of_le k2 hb)
      · rw [k3]
        rcases hb' with hb' | hb'
        · exact .sl _ _ _ _ hb'
        · exact (hb' v (by simp) c (by rw [k1, k2]; simp [newRef, Nat.ble_eq_true_of_le hbb])).elim
    · exact ih (hb'.imp id fun h v hv => h v (List.mem_cons_of_mem _ hv)) u hu
theorem flat_sc {p : Nat → Prop} {x : Blk} (hb : BlkOk p x) (hf : x.flat = true) {q : Nat → Prop} : BlkOk q x := ⟨fun v hv => Sc.flat v (hb.fl hf v hv), hb.plain, hb.fl⟩
theorem left_wf {h h1 : Heap} {vs : List Value} {v : Value} {h' : Heap} {q : Bool} (hl : Left h h1 vs v h' q) (hw : HWf h) (hw1 : HWf h1) (hs : ∀ v ∈ vs, Sc (· < h1.next) v) (hev : AEvo (h.low h.next) h1) :
    HWf h' ∧ Sc (· < h'.next) v ∧ AEvo h h' ∧ (q = true → ∀ b, b < h.next → h'.get b = h.get b) := by
  cases hl with
  | flat hwr hf => exact ⟨hw, .pack fun v hv => .of_flat (hf v hv), .refl hw, fun _ _ _ => rfl⟩
  | old vs' hwr hn hr => exact ⟨hw, .pack (hr.sc (Nat.le_refl _) (.inr hn) (Nat.le_refl _)), .refl hw, fun _ _ _ => rfl⟩
  | one vs' hwr b blk hb hge hfl hr =>
    have hbk : BlkOk (· < h.next) blk := flat_sc (hw1.ok b blk hb) hfl
    have hro : blk.ro = false := hev.new b blk hge hb
    refine ⟨hw.alloc hbk, .pack (hr.sc (n := h.next + 1) (Nat.le_succ _) (.inl (Nat.lt_succ_self _)) hge), AEvo.eff hw (f := .new blk) hbk hro, fun _ c hc => Heap.get_alloc_ne h blk (Nat.ne_of_lt hc)⟩
  | all hwr =>
    have hle : h.wr ≤ h.wr := Nat.le_refl _
    refine ⟨hw1.low _, .pack hs, ⟨hev.next, hev.old, hev.new, hle, fun b _ hlt => ?_⟩, fun _ b hlt => ?_⟩ <;> exact hev.wr b (by rw [hwr]; exact hlt) hlt
  | any n k1 k2 => exact ⟨hw1.low _, .pack hs, hev.to_low k1 k2, fun hh => by cases hh⟩
theorem getD_ofList {l : List Value} : ∀ {i t : Nat}, (Env.ofList l i).get t = if i ≤ t then l.getD (t - i) undef else undef := by
  induction l with
  | nil =>
    intro i t
    have : (Env.ofList ([] : List Value) i).get t = undef := by simp [Env.ofList, Env.get, Tr.get_leaf]
    rw [this]; split <;> rfl
  | cons v r ih =>
    intro i t
    simp only [Env.ofList, Env.get_set]
    by_cases h : i = t
    · subst h; simp
    · rw [if_neg h, ih]
      by_cases h2 : i + 1 ≤ t
      · rw [if_pos h2, if_pos (by omega)]
        obtain ⟨z, hz⟩ : ∃ z, t - i = z + 1 := ⟨t - i - 1, by omega⟩
        rw [hz, show t - (i + 1) = z by omega]
        simp
      · rw [if_neg h2, if_neg (by omega)]
section
variable {P : Program} {H : FuncId → Draws}
theorem results_sc {e : Env} {h : Heap} (hw : HWf h) (hs : ESc h.next e) : ∀ {rs : List ResultVar} {vs : List Value}, resultsA P e h rs = some vs → ∀ v ∈ vs, Sc (· < h.next) v
  | [], vs, hr, v, hv => by cases hr; cases hv
  | r :: rs, vs, hr, v, hv => by
    simp only [resultsA] at hr
    cases h1 : resultA P e h r with
    | none => rw [h1] at hr; cases hr
    | some u =>
      rw [h1] at hr
      simp only [Option.bind_some] at hr
      cases h2 : resultsA P e h rs with
      | none => rw [h2] at hr; cases hr
      | some us =>
        rw [h2] at hr
        cases hr
        rcases List.mem_cons.1 hv with rfl | hv
        · cases r with
          | tmp t => cases h1; exact hs t
          | cell a t =>
            simp only [resultA, resCell] at h1
            split at h1
            · rename_i b o _
              split at h1
              · rename_i g n _ _
                cases hg : h.get b with
                | none => rw [hg] at h1; cases h1
                | some blk =>
                  rw [hg] at h1
                  simp only [Option.bind_some] at h1
                  unfold cellAt at h1
                  cases g
                  · simp only [cond_false] at h1
                    exact (hw.ok b blk hg).sc _ (List.mem_of_getElem? h1)
                  · simp only [cond_true] at h1
                    cases hc : cut blk.cells o n with
                    | none => rw [hc] at h1; cases h1
                    | some cs =>
                      rw [hc] at h1
                      cases h1
                      obtain ⟨_, rfl⟩ := cut_some hc
                      exact .mk_agg fun v hv => (hw.ok b blk hg).sc v (List.mem_of_mem_drop (List.mem_of_mem_take (by simpa using hv)))
              · cases h1
            · cases h1
        · exact results_sc hw hs h2 v hv
theorem doneK_inv {fn : Func} {h : Heap} {o : Out} {v : Value} {h' : Heap} {q : Bool} (hr : doneK P fn h o = some (v, h', q)) : ∃ x e1 h1 vs, o = some (x, e1, h1) ∧ (x = .normal ∨ x = .ret) ∧ resultsA P e1 h1 fn.results.toList = some vs ∧ Left h h1 vs v h' q := by
  unfold doneK at hr
  split at hr
  · rename_i e1 h1
    cases h2 : resultsA P e1 h1 fn.results.toList with
    | none => rw [h2] at hr; cases hr
    | some vs => rw [h2] at hr; exact ⟨_, _, _, vs, rfl, .inl rfl, h2, left_of (Option.some.inj hr)⟩
  · rename_i e1 h1
    cases h2 : resultsA P e1 h1 fn.results.toList with
    | none => rw [h2] at hr; cases hr
    | some vs => rw [h2] at hr; exact ⟨_, _, _, vs, rfl, .inr rfl, h2, left_of (Option.some.inj hr)⟩
  · cases hr
theorem call_inv {n : Nat} {f : FuncId} {args : List Value} {h : Heap} {r : Value × Heap × Bool} (hr : call P H (n + 1) f args h = some r) : ∃ fn c, P.funcs[f]? = some fn ∧ fn.body = some c ∧ doneK P fn h (exec P (H f) (call P H n) n c (Env.ofList args 0) (h.low h.next)) = some r := by
  unfold call at hr
  cases h1 : P.funcs[f]? with
  | none => rw [h1] at hr; cases hr
  | some fn =>
    rw [h1] at hr
    dsimp only at hr
    cases h2 : fn.body with
    | none => rw [h2] at hr; cases hr
    | some c => rw [h2] at hr; exact ⟨fn, c, rfl, h2, hr⟩
theorem ofList_sc {n : Nat} {args : List Value} (h : ∀ v ∈ args, Sc (· < n) v) : ESc n (Env.ofList args 0) := by
  intro t
  rw [getD_ofList, if_pos (Nat.zero_le _)]
  rw [List.getD_eq_getElem?_getD]
  cases hh : args[t - 0]? with
  | none => exact .undef
  | some v => exact h v (List.mem_of_getElem? hh)
theorem call_wf : ∀ n, CfWf (call P H n)
  | 0 => fun f args h v h' q hr => by cases hr
  | n + 1 => fun f args h v h' q hr hw ha => by
    obtain ⟨fn, c, _, _, hd⟩ := call_inv hr
    obtain ⟨x, e1, h1, vs, k1, _, k3, k4⟩ := doneK_inv hd
    have z := exec_wf (call_wf n) n c k1 (hw.low _) (ofList_sc ha)
    exact left_wf k4 hw z.wf (results_sc z.wf z.sc k3) z.evo
end
end Go.Am
