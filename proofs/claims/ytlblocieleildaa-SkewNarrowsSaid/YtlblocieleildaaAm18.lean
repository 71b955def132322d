/- Operations whose order is left open: one step, whichever is next. -/
import Derived.Test.YtlblocieleildaaAm17
set_option linter.unusedVariables false
set_option linter.unusedSimpArgs false
set_option linter.unusedSectionVars false
namespace Go.Am
open Go.RowKit

theorem ev_rel_of {m : Mp} {e : Env} {a : Act} {x : Operand} (he : ∀ t, x = .tmp t → VRel m (e.get t) (a.tmps.getD t undef)) : VRel m (ev e x) (a.eval x) := by
  cases x with
  | tmp t => exact he t rfl
  | const v =>
    show VRel m (bif flat v then v else unk) v
    cases hf : flat v
    · exact .any v
    · exact .flat hf
  | global g => exact .any _
  | func f => exact .func _ _ _ _ _ rfl (fun i v v' h => by simp at h) rfl (fun i v v' h => by simp at h)
theorem ev_sc_of {p : Nat → Prop} {e : Env} {x : Operand} (he : ∀ t, x = .tmp t → Sc p (e.get t)) : Sc p (ev e x) := by
  cases x with
  | tmp t => exact he t rfl
  | const v =>
    show Sc p (bif flat v then v else unk)
    cases hf : flat v
    · exact .unk
    · exact .of_flat hf
  | global g => exact .unk
  | func f => exact .func _ _ _ (fun i v h => by simp at h) (fun i v h => by simp at h)
theorem effG_hit {G G' : Nat → Option Blk} {n b : Nat} {f : Eff} (h : b ∈ f.wr ∨ (f.isNew = true ∧ b = n)) : effG G n f b = effG G' n f b := by
  cases f with
  | non => rcases h with h | ⟨h, _⟩ <;> cases h
  | new x =>
    rcases h with h | ⟨_, rfl⟩
    · cases h
    · simp [effG]
  | set c x =>
    rcases h with h | ⟨h, _⟩
    · simp [Eff.wr] at h; subst h; simp [effG]
    · cases h
  | mv c x =>
    rcases h with h | ⟨_, rfl⟩
    · simp [Eff.wr] at h; subst h; simp [effG]
    · simp [effG]
theorem effG_miss {G : Nat → Option Blk} {n b : Nat} {f : Eff} (h1 : b ∉ f.wr) (h2 : ¬ (f.isNew = true ∧ b = n)) : effG G n f b = G b := by
  cases f with
  | non => rfl
  | new x => simp only [effG]; rw [if_neg (fun h => h2 ⟨rfl, h⟩)]
  | set c x => simp only [effG]; rw [if_neg (fun h => h1 (by simp [Eff.wr, h]))]
  | mv c x => simp only [effG]; rw [if_neg (fun h => h2 ⟨rfl, h⟩), if_neg (fun h => h1 (by simp [Eff.wr, h]))]
theorem made_eff {h : Heap} {f : Eff} {b : Nat} : (h.next ≤ b ∧ b < (h.eff f).next) ↔ (f.isNew = true ∧ b = h.next) := by
  cases f <;> simp [Heap.eff, Heap.alloc, Heap.set, Heap.kill, Eff.isNew] <;> omega

/-- the state when those of L are done -/
structure DInv (B : Nat) (w0 : World) (os : Array Oper) (E : Nat → Env) (H : Nat → Heap) (F : Nat → Foot) (m0 : Mp) (wS : World) (a0 : Act) (L : Nat → Bool) (m : Mp) (a : Act) (w : World) : Prop where
  heap : HRel B w0 m (VH os H F L) w
  env : ∀ t, t < a.tmps.size → VRel m (VE os E L t) (a.tmps.getD t undef)
  sc : ∀ t, Sc (pL os H L) (VE os E L t)
  hs : ∀ b x, VH os H F L b = some x → pL os H L b ∧ ∀ v ∈ x.cells, Sc (pL os H L) v
  evo : CEvo (· < (H 0).next) m0 m (H 0).get (VH os H F L) wS w
  size : a.tmps.size = a0.tmps.size
  defers : a.defers = a0.defers
section
variable {P : Program} {cf : CallF} {B : Nat} {w0 wS : World} {os : Array Oper} {E : Nat → Env} {H : Nat → Heap} {F : Nat → Foot} {L : Nat → Bool} {i : Nat} {m0 m : Mp} {a0 a : Act} {w : World}
theorem put_env {m m' : Mp} {a : Act} {dst : Option Tmp} {x y : Nat → Value} {p : Nat → Prop} {v v' : Value} (he : ∀ t, t < a.tmps.size → VRel m (x t) (a.tmps.getD t undef)) (hs : ∀ t, Sc p (x t)) (hm : ∀ b, p b → m' b = m b)
    (hy : ∀ t, y t = if dst = some t then v else x t) (hv : VRel m' v v') : ∀ t, t < (a.put dst v').tmps.size → VRel m' (y t) ((a.put dst v').tmps.getD t undef) := by
  intro t ht
  rw [put_size] at ht
  rw [hy]
  cases dst with
  | none => simpa [Act.put] using (he t ht).moved hm (hs t)
  | some d =>
    by_cases hd : d = t
    · subst hd
      simp [Act.put, ht, hv]
    · rw [if_neg (fun h => hd (Option.some.inj h))]
      have := (he t ht).moved hm (hs t)
      simpa [Act.put, Array.getD_eq_getD_getElem?, Array.getElem?_setIfInBounds_ne hd] using this
theorem put_sc {p q : Nat → Prop} {dst : Option Tmp} {x y : Nat → Value} {v : Value} (hs : ∀ t, Sc p (x t)) (hpq : ∀ b, p b → q b) (hy : ∀ t, y t = if dst = some t then v else x t) (hv : Sc q v) : ∀ t, Sc q (y t) := by
  intro t
  rw [hy]
  split
  · exact hv
  · exact (hs t).mono hpq
section
variable (hd : DInv B w0 os E H F m0 wS a0 L m a w) (hn : Next1 os L i) (hc : AllCmp os H F) (hf : Facts P cf os E H F) (hcw : CfWf cf)
include hd hn hc hf hcw
theorem step_skip {o : Oper} (ho : os[i]? = some o) (he : E (i + 1) = (E i).put o.dst undef) (hh : H (i + 1) = H i) (hF : F i = foot0 (H i)) : DInv B w0 os E H F m0 wS a0 (plus L i) m (a.put o.dst undef) w := by
  have nohit : ∀ b, ¬ Hit H F i b := by
    intro b hb
    rcases hb with hb | hb
    · rw [Wr, hF] at hb; rcases hb with ⟨hb, _⟩ | hb <;> cases hb
    · unfold Made at hb; rw [hh] at hb; omega
  have hp : ∀ b, pL os H L b → pL os H (plus L i) b := fun b hb => (pL_plus hn.lt).2 (.inl hb)
  have hV : VH os H F (plus L i) = VH os H F L := funext fun b => VH_plus (nohit b)
  have hE := VE_put hn hc hf ho he
  exact ⟨hV ▸ hd.heap, put_env hd.env hd.sc (fun _ _ => rfl) hE (.tuple _ _ rfl fun i v v' h => by simp at h), put_sc hd.sc hp hE .undef,
    fun b x hb => by rw [hV] at hb; obtain ⟨h1, h2⟩ := hd.hs b x hb; exact ⟨hp b h1, fun v hv => (h2 v hv).mono hp⟩, hV ▸ hd.evo, (put_size _ _ _).trans hd.size, (put_defers _ _ _).trans hd.defers⟩
theorem pre_of {o : Oper} {ns : Nat} (ho : os[i]? = some o) (hns : ns ≤ a.tmps.size) (hok : ∀ x ∈ o.op.operands, okSlot ns x = true) : Pre P o (E i) a B m (H i) w (pL os H L) := by
  have look : ∀ x ∈ o.op.operands, ∀ t, x = .tmp t → VE os E L t = (E i).get t := fun x hx t ht => VE_now hn hc hf ho (.inl (List.mem_append_left _ (List.mem_filterMap.2 ⟨.tmp t, by subst ht; simpa using hx, rfl⟩)))
  refine ⟨fun x hx => ev_rel_of fun t ht => ?_, fun x hx => ev_sc_of fun t ht => ?_, fun b x hb => ((hf.wf i (Nat.le_of_lt hn.lt)).ok b x hb).plain, hd.heap.base⟩
  · rw [← look x hx t ht]
    have := hok x hx
    subst ht
    exact hd.env t (Nat.lt_of_lt_of_le (lt_of_blt this) hns)
  · rw [← look x hx t ht]
    exact hd.sc t
theorem step_plain {o : Oper} {ns : Nat} (ho : os[i]? = some o) (hns : ns ≤ a.tmps.size) (hok : ∀ x ∈ o.op.operands, okSlot ns x = true) {r : Res} {v : Value} (hst : stepOf P o (E i) (H i) = some r)
    (hr : (∃ rd f, r = .val v rd f) ∨ (v = undef ∧ ∃ rd f, r = .unit rd f)) (he : E (i + 1) = (E i).put o.dst v) (hh : H (i + 1) = (H i).eff r.eff) (hF : F i = Foot.mk1 (H i) r.rd r.eff) :
    ∃ n w' v' m', (execOp a.eval o).run P w = .ok n w' ∧ ((n = .value v') ∨ (n = .skip ∧ v' = undef)) ∧ DInv B w0 os E H F m0 wS a0 (plus L i) m' (a.put o.dst v') w' := by
  have hpre := pre_of hd hn hc hf hcw ho hns hok
  have hwf := hf.wf i (Nat.le_of_lt hn.lt)
  have hmade : ∀ b, Made H i b ↔ (r.eff.isNew = true ∧ b = (H i).next) := fun b => by unfold Made; rw [hh]; exact made_eff
  have hnow : ∀ b x, b ∈ r.rd → (H i).get b = some x → VH os H F L b = some x := fun b x hb hx =>
    (VH_now hn hc hf hcw (.inl ⟨.inr (by rw [hF]; exact hb), hwf.lt b x hx⟩)).trans hx
  have hT : Reads B m (H i) w (pL os H L) r.rd := fun b hb x hx => ⟨hd.heap.blk b x (hnow b x hb hx), (hd.hs b x (hnow b x hb hx)).2⟩
  have hpn : r.eff.isNew = true → ¬ pL os H L (H i).next := fun h1 h2 => pL_not_made hn hc hf h2 ((hmade _).2 ⟨h1, rfl⟩)
  have hsim := sim hpre hst hT hpn
  have hok' := step_ok (p := pL os H L) hwf hpre.sc hst fun b hb x hx => (hT b hb x hx).2
  have key : ∀ {f : Eff} {v' : Value} {m' : Mp} {w' : World}, r.eff = f → EffOk (H i) (pL os H L) f → Sc (more (pL os H L) (H i) f) v → (∀ b ∈ f.wr, b ∈ r.rd) → VRel m' v v' → Done B m m' (H i) w w' f →
      DInv B w0 os E H F m0 wS a0 (plus L i) m' (a.put o.dst v') w' := by
    intro f v' m' w' hrf hef hv hwr hvr hdn
    rw [hrf] at hmade hpn
    have hlive : Live (VH os H F L) f := by
      cases f with
      | non => trivial
      | new x => trivial
      | set c x => obtain ⟨y, hy⟩ := hef.1; exact ⟨y, hnow c y (hwr c (by simp [Eff.wr])) hy⟩
      | mv c x => obtain ⟨y, hy⟩ := hef.1; exact ⟨y, hnow c y (hwr c (by simp [Eff.wr])) hy⟩
    obtain ⟨k1, k2⟩ := hd.heap.eff hd.hs hpn hlive hdn
    have hV : VH os H F (plus L i) = effG (VH os H F L) (H i).next f := by
      funext b
      by_cases hb : b ∈ f.wr ∨ (f.isNew = true ∧ b = (H i).next)
      · have hcase : (Tch H F i b ∧ b < (H i).next) ∨ Made H i b := by
          rcases hb with hb | hb
          · exact .inl (hf.wr_tch hn.lt (.inr (by rw [hF, hrf]; exact hb)))
          · exact .inr ((hmade b).2 hb)
        rw [VH_then hn hc hf hcw hcase, hh, hrf, effG_heap]
        exact effG_hit hb
      · rw [effG_miss (fun h => hb (.inl h)) (fun h => hb (.inr h))]
        refine VH_plus fun hit => hb ?_
        rcases hit with hit | hit
        · rw [Wr, hF, hrf] at hit
          rcases hit with ⟨hit, _⟩ | hit
          · cases hit
          · exact .inl hit
        · exact .inr ((hmade b).1 hit)
    have hp : ∀ b, pL os H L b → pL os H (plus L i) b := fun b hb => (pL_plus hn.lt).2 (.inl hb)
    have hp' : ∀ b, more (pL os H L) (H i) f b → pL os H (plus L i) b := by
      rintro b (hb | hb)
      · exact hp b hb
      · exact (pL_plus hn.lt).2 (.inr ((hmade b).2 hb))
    have hkeep : ∀ b, pL os H L b → m' b = m b := by
      intro b hb
      cases hnw : f.isNew
      · rw [hdn.same hnw]
      · exact hdn.keep b fun h => hpn hnw (h ▸ hb)
    have hE := VE_put hn hc hf ho he
    refine ⟨hV ▸ k1, put_env hd.env hd.sc hkeep hE hvr, put_sc hd.sc hp hE (hv.mono hp'), fun b x hb => ?_, ?_, (put_size _ _ _).trans hd.size, (put_defers _ _ _).trans hd.defers⟩
    · rw [hV] at hb
      have blk : ∀ {y : Blk}, BlkOk (pL os H L) y → ∀ v ∈ y.cells, Sc (pL os H (plus L i)) v := fun hy v hv => (hy.sc v hv).mono hp
      have old : VH os H F L b = some x → pL os H (plus L i) b ∧ ∀ v ∈ x.cells, Sc (pL os H (plus L i)) v := fun hb => ⟨hp b (hd.hs b x hb).1, fun v hv => ((hd.hs b x hb).2 v hv).mono hp⟩
      cases f with
      | non => exact old hb
      | new y =>
        simp only [effG] at hb
        split at hb
        · cases hb; exact ⟨hp' b (.inr ⟨rfl, by assumption⟩), blk hef⟩
        · exact old hb
      | set c y =>
        simp only [effG] at hb
        split at hb
        · cases hb
          obtain ⟨z, hz⟩ := hlive
          have := (hd.hs c z hz).1
          rename_i hbc
          subst hbc
          exact ⟨hp b this, blk hef.2⟩
        · exact old hb
      | mv c y =>
        simp only [effG] at hb
        split at hb
        · cases hb; exact ⟨hp' b (.inr ⟨rfl, by assumption⟩), blk hef.2⟩
        · split at hb
          · cases hb
          · exact old hb
    · rw [hV]
      exact hd.evo.trans k2 fun c hc => .inl hc
  rcases hr with ⟨rd, f, rfl⟩ | ⟨rfl, rd, f, rfl⟩
  · obtain ⟨m', v', w', h1, h2, h3⟩ := hsim
    exact ⟨_, w', v', m', h1, .inl rfl, key rfl hok'.1 hok'.2.1 hok'.2.2 h2 h3⟩
  · obtain ⟨m', w', h1, h3⟩ := hsim
    exact ⟨_, w', undef, m', h1, .inr ⟨rfl, rfl⟩, key rfl hok'.1 .undef hok'.2 (.tuple _ _ rfl fun i v v' h => by simp at h) h3⟩
end
end
end Go.Am
