/- What the abstract machine keeps of its own heap, from operation to operation. Operations in the order of the text, in both machines. Operations whose order is left open: what is asked of a region, and what follows of it. Operations whose order is left open: what each step of the text's order keeps, and that unordered steps may change places. Operations whose order is left open: what a key holds while some of them are done, against the run in the order of the text. Operations whose order is left open: one step, whichever is next. Operations whose order is left open: a call, whichever is next; then the region whole. -/
import Derived.Test.YtlnjhllfacmkoaaGreatAm12
section
set_option linter.unusedVariables false
set_option linter.unusedSimpArgs false
namespace Go.Am
open Go.RowKit

/-- a later heap -/
structure AEvo (h h' : Heap) : Prop where
  next : h.next ≤ h'.next
  old : ∀ b x, b < h.next → h'.get b = some x → ∃ x0, h.get b = some x0 ∧ x0.ro = x.ro
  new : ∀ b x, h.next ≤ b → h'.get b = some x → x.ro = false
  wrle : h'.wr ≤ h.wr
  wr : ∀ b, b < h'.wr → b < h.next → h'.get b = h.get b
theorem AEvo.refl {h : Heap} (hw : HWf h) : AEvo h h := ⟨Nat.le_refl _, fun b x _ hb => ⟨x, hb, rfl⟩, fun b x hn hb => absurd (hw.lt b x hb) (by omega), Nat.le_refl _, fun _ _ _ => rfl⟩
theorem AEvo.trans {h h1 h2 : Heap} (a : AEvo h h1) (b : AEvo h1 h2) : AEvo h h2 := by
  refine ⟨Nat.le_trans a.next b.next, fun c x hc hx => ?_, fun c x hn hx => ?_, Nat.le_trans b.wrle a.wrle, fun c hc hn => (b.wr c hc (Nat.lt_of_lt_of_le hn a.next)).trans (a.wr c (Nat.lt_of_lt_of_le hc b.wrle) hn)⟩
  · obtain ⟨x1, hx1, hr⟩ := b.old c x (Nat.lt_of_lt_of_le hc a.next) hx
    obtain ⟨x0, hx0, hr0⟩ := a.old c x1 hc hx1
    exact ⟨x0, hx0, hr0.trans hr⟩
  · by_cases hc : c < h1.next
    · obtain ⟨x1, hx1, hr⟩ := b.old c x hc hx
      rw [← hr]; exact a.new c x1 hn hx1
    · exact b.new c x (by omega) hx
/-- written blocks that were there stay what they are: read-only or the call's own -/
def EffRo (h : Heap) : Eff → Prop
  | .non => True
  | .new x => x.ro = false
  | .set b x => ∃ y, h.get b = some y ∧ y.ro = x.ro
  | .mv _ x => x.ro = false
theorem AEvo.eff {h : Heap} (hw : HWf h) {f : Eff} (hf : EffOk h (· < h.next) f) (hr : EffRo h f) : AEvo h (h.eff f) := by
  cases f with
  | non => exact .refl hw
  | new y =>
    refine ⟨by simp [Heap.eff, Heap.alloc], fun b x hn hb => ?_, fun b x hn hb => ?_, Nat.le_refl _, fun b _ hn => ?_⟩
    · simp only [Heap.eff] at hb
      rw [Heap.get_alloc_ne h y (by omega)] at hb
      exact ⟨x, hb, rfl⟩
    · simp only [Heap.eff] at hb
      by_cases hbn : b = h.next
      · subst hbn; rw [Heap.get_alloc_same] at hb; cases hb; exact hr
      · rw [Heap.get_alloc_ne h y hbn] at hb
        exact absurd (hw.lt b x hb) (by omega)
    · simp only [Heap.eff]
      rw [Heap.get_alloc_ne h y (by omega)]
  | set c y =>
    obtain ⟨y0, hy0, hyr⟩ := hr
    refine ⟨Nat.le_refl _, fun b x hn hb => ?_, fun b x hn hb => ?_, ?_, fun b hb hn => ?_⟩
    · simp only [Heap.eff] at hb
      by_cases hbc : c = b
      · subst hbc; rw [Heap.get_set_same] at hb; cases hb; exact ⟨y0, hy0, hyr⟩
      · rw [Heap.get_set_ne h y hbc] at hb; exact ⟨x, hb, rfl⟩
    · simp only [Heap.eff] at hb
      by_cases hbc : c = b
      · subst hbc; exact absurd (hw.lt c y0 hy0) (by omega)
      · rw [Heap.get_set_ne h y hbc] at hb
        exact absurd (hw.lt b x hb) (by omega)
    · simp only [Heap.eff, Heap.wr_set]; split <;> omega
    · simp only [Heap.eff, Heap.wr_set] at hb ⊢
      rw [Heap.get_set_ne h y (by split at hb <;> omega)]
  | mv c y =>
    refine ⟨by simp [Heap.eff, Heap.alloc, Heap.kill], fun b x hn hb => ?_, fun b x hn hb => ?_, ?_, fun b hb hn => ?_⟩
    · simp only [Heap.eff] at hb
      rw [Heap.get_alloc_ne _ y (by simp [Heap.kill]; omega)] at hb
      by_cases hbc : c = b
      · subst hbc; rw [Heap.get_kill_same] at hb; cases hb
      · rw [Heap.get_kill_ne h hbc] at hb; exact ⟨x, hb, rfl⟩
    · simp only [Heap.eff] at hb
      by_cases hbn : b = h.next
      · subst hbn
        have := Heap.get_alloc_same (h.kill c) y
        rw [show (h.kill c).next = h.next from rfl] at this
        rw [this] at hb; cases hb; exact hr
      · rw [Heap.get_alloc_ne _ y (by simpa [Heap.kill] using hbn)] at hb
        by_cases hbc : c = b
        · subst hbc; rw [Heap.get_kill_same] at hb; cases hb
        · rw [Heap.get_kill_ne h hbc] at hb
          exact absurd (hw.lt b x hb) (by omega)
    · show ((h.kill c).alloc y).wr ≤ h.wr
      rw [Heap.wr_alloc, Heap.wr_kill]; split <;> omega
    · have hb : b < ((h.kill c).alloc y).wr := hb
      rw [Heap.wr_alloc, Heap.wr_kill] at hb
      simp only [Heap.eff]
      rw [Heap.get_alloc_ne _ y (by simp [Heap.kill]; omega), Heap.get_kill_ne h (by split at hb <;> omega)]
section
variable {P : Program} {cf : CallF} {e : Env} {h : Heap} {r : Res}
theorem ro_boxV {z : Value} (hs : boxV h z = some r) : EffRo h r.eff := by
  unfold boxV at hs
  cases hp : z.cells.toList.all plainCell
  · rw [hp] at hs; cases hs
  · rw [hp] at hs; cases hs; rfl
theorem ro_asValue {n : Option Next} (hs : asValue n = some r) : EffRo h r.eff := by
  obtain ⟨v, _, hv, rfl⟩ := asValue_some hs
  trivial
theorem ro_pure {o : Oper} (hs : pureS P o e h = some r) : EffRo h r.eff := by
  unfold pureS at hs
  cases hf : o.op.operands.toList.all fun x => flat (ev e x)
  · rw [hf] at hs; cases hs
  · rw [hf] at hs; exact ro_asValue hs
/-- most operations turn nothing -/
theorem ro_storeS {t : TypeId} {x y : Operand} (hs : storeS P t x y e h = some r) : EffRo h r.eff := by
  unfold storeS at hs
  cases hn : szOf P t with
  | none => rw [hn] at hs; cases hs
  | some n =>
    rw [hn] at hs
    dsimp only at hs
    unfold storeV at hs
    split at hs
    · rename_i b o hq
      obtain ⟨x', hx', rfl⟩ := Option.map_eq_some_iff.1 hs
      obtain ⟨blk, hblk, hx'⟩ := Option.bind_eq_some_iff.1 hx'
      unfold storeB at hx'
      cases hc : !blk.ro && Nat.beq (ev e y).cells.toList.length n && Nat.ble (o + n) blk.cells.length && (ev e y).cells.toList.all plainCell
      · rw [hc] at hx'; cases hx'
      · rw [hc] at hx'; cases hx'; exact ⟨blk, hblk, rfl⟩
    · cases hs
theorem ro_appendTo {sz bytes n : Nat} {s : Value} {rd : List Nat} {cs : List Value} {fl : Bool} (hs : appendTo h sz bytes s rd cs fl n = some r) : EffRo h r.eff := by
  unfold appendTo at hs
  split at hs
  · rename_i len cap
    cases hq : Nat.beq len 0 && Nat.beq cap 0
    · rw [hq] at hs; cases hs
    · rw [hq] at hs
      cases hn : Nat.beq n 0
      · rw [hn] at hs
        cases hm : Nat.ble (n * bytes) 140737488355328
        · rw [hm] at hs; cases hs
        · rw [hm] at hs; cases hs; rfl
      · rw [hn] at hs; cases hs; trivial
  · rename_i b o len cap
    obtain ⟨blk, hblk, hs⟩ := Option.bind_eq_some_iff.1 hs
    cases hn : Nat.beq n 0
    · rw [hn] at hs
      simp only [cond_false] at hs
      cases hr : Nat.ble (len + n) cap
      · rw [hr] at hs
        simp only [cond_false] at hs
        cases hm : Nat.ble ((len + n) * bytes) 140737488355328
        · rw [hm] at hs; cases hs
        · rw [hm] at hs
          obtain ⟨old, hold, hs⟩ := Option.bind_eq_some_iff.1 hs
          split at hs
          · cases hs; rfl
          · rename_i gr _
            cases hgr : Nat.beq gr sz && !blk.ro
            · rw [hgr] at hs; cases hs
            · rw [hgr] at hs; cases hs; rfl
      · rw [hr] at hs
        simp only [cond_true] at hs
        cases hm : !blk.ro && Nat.ble (o + (len + n) * sz) blk.cells.length
        · rw [hm] at hs; cases hs
        · rw [hm] at hs; cases hs; exact ⟨blk, hblk, rfl⟩
    · rw [hn] at hs
      simp only [cond_true] at hs
      cases hm : Nat.ble len cap
      · rw [hm] at hs; cases hs
      · rw [hm] at hs; cases hs; trivial
  · cases hs
def Pure0 (r : Res) : Prop := ∃ v, r = .val v [] .non
theorem p0_asValue {n : Option Next} (hs : asValue n = some r) : Pure0 r := by
  obtain ⟨v, _, _, rfl⟩ := asValue_some hs
  exact ⟨v, rfl⟩
theorem p0_pure {o : Oper} (hs : pureS P o e h = some r) : Pure0 r := by
  unfold pureS at hs
  cases hf : o.op.operands.toList.all fun x => flat (ev e x)
  · rw [hf] at hs; cases hs
  · rw [hf] at hs; exact p0_asValue hs
theorem p0_pickS {c x y : Operand} (hs : pickS c x y e h = some r) : Pure0 r := by
  unfold pickS at hs
  split at hs
  · cases hs; exact ⟨_, rfl⟩
  · cases hs
theorem p0_nilCheckS {x : Operand} (hs : nilCheckS x e h = some r) : Pure0 r := by
  unfold nilCheckS at hs
  split at hs
  · cases hs; exact ⟨_, rfl⟩
  · cases hs; exact ⟨_, rfl⟩
  · cases hs; exact ⟨_, rfl⟩
  · cases hs
theorem p0_fieldAddrS {s : TypeId} {x : Operand} {f : Nat} (hs : fieldAddrS P s x f e h = some r) : Pure0 r := by
  unfold fieldAddrS at hs
  cases hu : P.underlying s with
  | none => rw [hu] at hs; cases hs
  | some d =>
    rw [hu] at hs
    cases d with
    | struct fields =>
      dsimp only at hs
      cases hf : fields[f]? with
      | none => rw [hf] at hs; cases hs
      | some fd =>
      rw [hf] at hs
      dsimp only at hs
      cases hn : szOf P fd.type with
      | none => rw [hn] at hs; cases hs
      | some n =>
        rw [hn] at hs
        dsimp only at hs
        cases h0 : Nat.beq n 0
        · rw [h0] at hs
          simp only [cond_false] at hs
          cases hq : asPtr (ev e x) with
          | none => rw [hq] at hs; cases hs
          | some bo => rw [hq] at hs; cases hs; exact ⟨_, rfl⟩
        · rw [h0] at hs; cases hs
    | _ => cases hs
theorem p0_indexV {sz : Nat} {k : Option Int} {s : Option (Option (Nat × Nat) × Nat × Nat)} (hs : indexV sz k s = some r) : Pure0 r := by
  obtain ⟨i, b, o, len, cap, h1, h2, h3, h4, rfl⟩ := indexV_some hs
  exact ⟨_, rfl⟩
theorem p0_indexAddrS {t : TypeId} {x i : Operand} (hs : indexAddrS P t x i e h = some r) : Pure0 r := by
  unfold indexAddrS at hs
  cases hu : P.underlying t with
  | none => rw [hu] at hs; cases hs
  | some d =>
    rw [hu] at hs
    cases d with
    | slice el =>
      dsimp only at hs
      cases hz : szOf P el with
      | none => rw [hz] at hs; cases hs
      | some sz => rw [hz] at hs; exact p0_indexV hs
    | array len el =>
      dsimp only at hs
      cases hz : szOf P el with
      | none => rw [hz] at hs; cases hs
      | some sz => rw [hz] at hs; exact p0_indexV hs
    | _ => cases hs
theorem p0_extractS {x : Operand} {i : Nat} (hs : extractS x i e h = some r) : Pure0 r := by
  unfold extractS at hs
  split at hs
  · obtain ⟨v, hv, rfl⟩ := Option.map_eq_some_iff.1 hs
    exact ⟨_, rfl⟩
  · cases hs
theorem p0_lenS {t : TypeId} {x : Operand} (hs : lenS P t x e h = some r) : Pure0 r := by
  unfold lenS at hs
  cases hu : P.underlying t with
  | none => rw [hu] at hs; cases hs
  | some d =>
    rw [hu] at hs
    cases d with
    | string =>
      dsimp only at hs
      unfold lenStr at hs
      split at hs
      · cases hs; exact ⟨_, rfl⟩
      · cases hs
    | slice el =>
      dsimp only at hs
      unfold lenV at hs
      split at hs
      · cases hs; exact ⟨_, rfl⟩
      · cases hs
    | _ => cases hs
theorem p0_binS {o : Oper} {op : BinOp} {t : TypeId} {x y : Operand} (hs : binS P o op t x y e h = some r) : Pure0 r := by
  unfold binS orElse at hs
  split at hs
  · rename_i r' hb
    cases hs
    unfold binI at hb
    split at hb
    · rename_i k i k' j h1 h2
      cases hk : decide (k = k')
      · rw [hk] at hb; cases hb
      · rw [hk] at hb
        obtain ⟨v, hv, rfl⟩ := Option.map_eq_some_iff.1 hb
        exact ⟨_, rfl⟩
    · cases hb
  · unfold binV at hs
    cases hf : flat (ev e x) && flat (ev e y)
    · rw [hf] at hs
      simp only [cond_false] at hs
      unfold nilV at hs
      split at hs
      · split at hs
        · cases hs; exact ⟨_, rfl⟩
        · cases hs; exact ⟨_, rfl⟩
        · cases hs
      · cases hs
    · rw [hf] at hs; exact p0_asValue hs
theorem p0_unS {o : Oper} {op : UnOp} {x : Operand} (hs : unS P o op x e h = some r) : Pure0 r := by
  unfold unS unV at hs
  split at hs
  · split at hs
    · cases hs; exact ⟨_, rfl⟩
    · cases hs
  · split at hs
    · cases hs; exact ⟨_, rfl⟩
    · exact p0_asValue hs
  · cases hf : flat (ev e x)
    · rw [hf] at hs; cases hs
    · rw [hf] at hs; exact p0_asValue hs
theorem p0_fieldS {s : TypeId} {x : Operand} {f : Nat} (hs : fieldS P s x f e h = some r) : Pure0 r := by
  unfold fieldS at hs
  cases hu : P.underlying s with
  | none => rw [hu] at hs; cases hs
  | some d =>
    rw [hu] at hs
    cases d with
    | struct fields =>
      dsimp only at hs
      cases hf : fields[f]? with
      | none => rw [hf] at hs; cases hs
      | some fd =>
        rw [hf] at hs
        dsimp only at hs
        cases hg : aggT P fd.type with
        | none => rw [hg] at hs; cases hs
        | some gg =>
          cases hn : szOf P fd.type with
          | none => rw [hg, hn] at hs; cases hs
          | some n =>
            rw [hg, hn] at hs
            dsimp only at hs
            unfold fieldOf at hs
            split at hs
            · obtain ⟨v, hv, rfl⟩ := Option.map_eq_some_iff.1 hs
              exact ⟨_, rfl⟩
            · cases hs
    | _ => cases hs
theorem p0_buildV {c : Option (Array Value)} (hs : buildV c = some r) : Pure0 r := by
  unfold buildV at hs
  split at hs
  · rename_i cs
    cases hpl : cs.toList.all plainCell
    · rw [hpl] at hs; cases hs
    · rw [hpl] at hs; cases hs; exact ⟨_, rfl⟩
  · cases hs
theorem p0_buildS {t : TypeId} {parts : Array (Nat × Operand)} (hs : buildS P t parts e h = some r) : Pure0 r := by
  unfold buildS at hs
  cases hu : P.underlying t with
  | none => rw [hu] at hs; cases hs
  | some d =>
    cases hz : (P.info? t).bind (·.zero) with
    | none => rw [hu, hz] at hs; cases d <;> cases hs
    | some z =>
      rw [hu, hz] at hs
      cases d with
      | struct fs =>
        dsimp only at hs
        cases hpl : places P fs with
        | none => rw [hpl] at hs; cases hs
        | some ps =>
          rw [hpl] at hs
          dsimp only at hs
          cases hf : flat z
          · rw [hf] at hs; cases hs
          · rw [hf] at hs; exact p0_buildV hs
      | array n el =>
        dsimp only at hs
        cases hn : szOf P el with
        | none => rw [hn] at hs; cases hs
        | some sz =>
          rw [hn] at hs
          dsimp only at hs
          cases hf : flat z
          · rw [hf] at hs; cases hs
          · rw [hf] at hs; exact p0_buildV hs
      | _ => cases hs
def New1 (r : Res) : Prop := ∃ v x, r = .val v [] (.new x) ∧ x.ro = false
theorem n1_boxV {z : Value} (hs : boxV h z = some r) : New1 r := by
  unfold boxV at hs
  cases hp : z.cells.toList.all plainCell
  · rw [hp] at hs; cases hs
  · rw [hp] at hs; cases hs; exact ⟨_, _, rfl, rfl⟩
theorem n1_allocS {t : TypeId} (hs : allocS P t e h = some r) : New1 r := by
  unfold allocS at hs
  cases hz : (P.info? t).bind (·.zero) with
  | none => rw [hz] at hs; cases hs
  | some z =>
    rw [hz] at hs
    dsimp only at hs
    cases hf : flat z
    · rw [hf] at hs; cases hs
    · rw [hf] at hs; exact n1_boxV hs
theorem n1_buildSliceS {t : TypeId} {n : Nat} {parts : Array (Nat × Operand)} (hs : buildSliceS P t n parts e h = some r) : New1 r := by
  unfold buildSliceS at hs
  cases hu : P.underlying t with
  | none => rw [hu] at hs; cases hs
  | some d =>
    rw [hu] at hs
    cases d with
    | slice el =>
      dsimp only at hs
      cases hi : P.info? el with
      | none => rw [hi] at hs; cases hs
      | some i =>
        rw [hi] at hs
        dsimp only at hs
        cases hz : i.zero with
        | none => rw [hz] at hs; cases hs
        | some z =>
          rw [hz] at hs
          dsimp only at hs
          cases hc : Nat.ble (n * i.size) 16777216 && flat z && !Nat.beq i.size 0 && z.cells.toList.all plainCell
          · rw [hc] at hs; cases hs
          · rw [hc] at hs
            simp only [cond_true] at hs
            unfold buildSliceV at hs
            split at hs
            · rename_i cs hcs
              cases hpl : cs.toList.all plainCell
              · rw [hpl] at hs; cases hs
              · rw [hpl] at hs; cases hs; exact ⟨_, _, rfl, rfl⟩
            · cases hs
    | _ => cases hs
def Read2 (r : Res) : Prop := ∃ v rd, r = .val v rd .non
theorem r2_loadS {t : TypeId} {x : Operand} (hs : loadS P t x e h = some r) : Read2 r := by
  unfold loadS at hs
  cases hg : aggT P t with
  | none => rw [hg] at hs; cases hs
  | some gg =>
    cases hn : szOf P t with
    | none => rw [hg, hn] at hs; cases hs
    | some n =>
      rw [hg, hn] at hs
      dsimp only at hs
      unfold loadV at hs
      split at hs
      · obtain ⟨v, hv, rfl⟩ := Option.map_eq_some_iff.1 hs
        exact ⟨_, _, rfl⟩
      · cases hs
theorem r2_sliceS {o : Oper} {t : TypeId} {x : Operand} {lo hi : Option Operand} (hs : sliceS P o t x lo hi e h = some r) : Read2 r := by
  unfold sliceS at hs
  cases hu : P.underlying t with
  | none => rw [hu] at hs; cases hs
  | some d =>
    rw [hu] at hs
    cases d with
    | string =>
      obtain ⟨v, rfl⟩ := p0_pure hs
      exact ⟨_, _, rfl⟩
    | slice el =>
      dsimp only at hs
      cases hz : szOf P el with
      | none => rw [hz] at hs; cases hs
      | some sz =>
        rw [hz] at hs
        dsimp only at hs
        unfold sliceV at hs
        split at hs
        · rename_i A n c hsl
          obtain ⟨ih, h1, hs⟩ := Option.bind_eq_some_iff.1 hs
          obtain ⟨il, h2, hs⟩ := Option.bind_eq_some_iff.1 hs
          cases hle : Nat.ble ih c
          · rw [hle] at hs; cases hs
          rw [hle] at hs
          simp only [cond_true] at hs
          cases A with
          | none => cases hs; exact ⟨_, _, rfl⟩
          | some bo =>
            obtain ⟨b, o⟩ := bo
            dsimp only at hs
            obtain ⟨ex, hg, hs⟩ := Option.bind_eq_some_iff.1 hs
            cases hic : Nat.beq il c
            · rw [hic] at hs; cases hs; exact ⟨_, _, rfl⟩
            · rw [hic] at hs
              cases ex with
              | false => cases hs
              | true => cases hs; exact ⟨_, _, rfl⟩
        · cases hs
    | _ => cases hs
theorem ro_appendS {t t' : TypeId} {s x : Operand} (hs : appendS P t t' s x e h = some r) : EffRo h r.eff := by
  unfold appendS at hs
  cases hk : P.underlying t' with
  | none => rw [hk] at hs; cases hs
  | some d' =>
  cases d' with
  | slice e' =>
    cases ht : P.underlying t with
    | none => rw [hk, ht] at hs; cases hs
    | some d =>
    cases d with
    | slice el =>
      rw [hk, ht] at hs
      dsimp only at hs
      cases hi : P.info? el with
      | none => rw [hi] at hs; cases hs
      | some i =>
        rw [hi] at hs
        dsimp only at hs
        cases hz : i.zero with
        | none => rw [hz] at hs; cases hs
        | some z =>
          rw [hz] at hs
          dsimp only at hs
          cases hc : !Nat.beq i.size 0 && !Nat.beq i.bytes 0 && Nat.beq z.cells.size i.size
          · rw [hc] at hs; cases hs
          · rw [hc] at hs
            simp only [cond_true] at hs
            unfold appendV at hs
            split at hs
            · exact ro_appendTo hs
            · cases hs
    | _ => rw [hk, ht] at hs; cases hs
  | _ => rw [hk] at hs; cases ht : P.underlying t <;> rw [ht] at hs <;> cases hs
theorem ro_callS {f : Operand} {args : Array Operand} (hs : callS P f args e h = some r) : EffRo h r.eff := by
  unfold callS at hs
  split at hs
  · rename_i gg first captured he
    cases hb : hasBody P gg
    · rw [hb] at hs; cases hs
    · rw [hb] at hs; cases hs; trivial
  · cases hs
theorem r2_convertS {o : Oper} {s d : TypeId} {x : Operand} (hs : convertS P o s d x e h = some r) : Read2 r := by
  unfold convertS at hs
  cases hb : isBytes P s d
  · rw [hb] at hs
    obtain ⟨v, rfl⟩ := p0_pure (h := h) hs
    exact ⟨_, _, rfl⟩
  · rw [hb] at hs
    simp only [cond_true] at hs
    unfold convB at hs
    split at hs
    · cases hs; exact ⟨_, _, rfl⟩
    · obtain ⟨blk, hblk, hs⟩ := Option.bind_eq_some_iff.1 hs
      obtain ⟨cs, hcs, hs⟩ := Option.bind_eq_some_iff.1 hs
      obtain ⟨str, hstr, hs⟩ := Option.map_eq_some_iff.1 hs
      cases hs
      exact ⟨_, _, rfl⟩
    · cases hs
theorem ro_makeSliceS {t : TypeId} {l c : Operand} (hs : makeSliceS P t l c e h = some r) : EffRo h r.eff := by
  unfold makeSliceS at hs
  cases hu : P.underlying t with
  | none => rw [hu] at hs; cases hs
  | some d =>
    rw [hu] at hs
    cases d with
    | slice el =>
      dsimp only at hs
      cases hi : P.info? el with
      | none => rw [hi] at hs; cases hs
      | some i =>
        rw [hi] at hs
        dsimp only at hs
        cases hz : i.zero with
        | none => rw [hz] at hs; cases hs
        | some z =>
          rw [hz] at hs
          dsimp only at hs
          cases hc : flat z && !Nat.beq i.size 0 && z.cells.toList.all plainCell && Nat.beq z.cells.size i.size
          · rw [hc] at hs; cases hs
          · rw [hc] at hs
            simp only [cond_true] at hs
            unfold makeV at hs
            split at hs
            · rename_i nl nc hl hcc
              cases hb : Nat.ble nl nc && Nat.ble (nc * i.bytes) 16777216 && Nat.ble (nc * i.size) 16777216 && Nat.ble nc 16777216
              · rw [hb] at hs; cases hs
              · rw [hb] at hs; cases hs; rfl
            · cases hs
    | _ => cases hs
theorem ro_copyS {t t' : TypeId} {s x : Operand} (hs : copyS P t t' s x e h = some r) : EffRo h r.eff := by
  unfold copyS at hs
  cases hk : P.underlying t' with
  | none => rw [hk] at hs; cases hs
  | some d' =>
  cases d' with
  | slice e' =>
    cases ht : P.underlying t with
    | none => rw [hk, ht] at hs; cases hs
    | some d =>
    cases d with
    | slice el =>
      rw [hk, ht] at hs
      dsimp only at hs
      cases hz : szOf P el with
      | none => rw [hz] at hs; cases hs
      | some sz =>
        rw [hz] at hs
        dsimp only at hs
        cases hz0 : Nat.beq sz 0
        · rw [hz0] at hs
          simp only [cond_false] at hs
          unfold copyV at hs
          split at hs
          · rename_i rd cs fl n hcs
            split at hs
            · rename_i len cap hes
              cases hq : Nat.beq len 0
              · rw [hq] at hs; cases hs
              · rw [hq] at hs; cases hs; trivial
            · rename_i b o len cap hes
              obtain ⟨blk, hblk, hs⟩ := Option.bind_eq_some_iff.1 hs
              obtain ⟨cs1, hcs1, hs⟩ := Option.bind_eq_some_iff.1 hs
              cases hc : !blk.ro && Nat.ble (o + Nat.min n len * sz) blk.cells.length && Nat.ble (Nat.min n len) 9223372036854775807
              · rw [hc] at hs; cases hs
              · rw [hc] at hs
                cases hs
                exact ⟨blk, hblk, rfl⟩
            · cases hs
          · cases hs
        · rw [hz0] at hs; cases hs
    | _ => rw [hk, ht] at hs; cases hs
  | _ => rw [hk] at hs; cases ht : P.underlying t <;> rw [ht] at hs <;> cases hs
/-- the form of what an operation yields, by its kind -/
theorem shape {o : Oper} (hs : stepOf P o e h = some r) : (kindOf o.op = 0 ∧ Pure0 r) ∨ (kindOf o.op = 1 ∧ New1 r) ∨ (kindOf o.op = 2 ∧ Read2 r) ∨ (kindOf o.op = 3 ∧ EffRo h r.eff) := by
  obtain ⟨dst, op, ty, pos, af, g⟩ := o
  cases op with
  | move x => cases hs; exact .inl ⟨rfl, _, rfl⟩
  | assign x => cases hs; exact .inl ⟨rfl, _, rfl⟩
  | pick c x y => exact .inl ⟨rfl, p0_pickS (h := h) hs⟩
  | alloc t => exact .inr (.inl ⟨rfl, n1_allocS (h := h) hs⟩)
  | box t x => exact .inr (.inl ⟨rfl, n1_boxV (h := h) hs⟩)
  | build t parts => exact .inl ⟨rfl, p0_buildS (h := h) hs⟩
  | buildSlice t n parts => exact .inr (.inl ⟨rfl, n1_buildSliceS (h := h) hs⟩)
  | load t x => exact .inr (.inr (.inl ⟨rfl, r2_loadS (h := h) hs⟩))
  | store t x y => exact .inr (.inr (.inr ⟨rfl, ro_storeS (h := h) hs⟩))
  | nilCheck x => exact .inl ⟨rfl, p0_nilCheckS (h := h) hs⟩
  | fieldAddr s x f => exact .inl ⟨rfl, p0_fieldAddrS (h := h) hs⟩
  | field s x f => exact .inl ⟨rfl, p0_fieldS (h := h) hs⟩
  | indexAddr t x i => exact .inl ⟨rfl, p0_indexAddrS (h := h) hs⟩
  | slice t x lo hi mx =>
    cases mx with
    | none => exact .inr (.inr (.inl ⟨rfl, r2_sliceS (h := h) hs⟩))
    | some _ => cases hs
  | binOp op t x y t' => exact .inl ⟨rfl, p0_binS (h := h) hs⟩
  | unOp op t x => exact .inl ⟨rfl, p0_unS (h := h) hs⟩
  | extract t i => exact .inl ⟨rfl, p0_extractS (h := h) hs⟩
  | convert s d x => exact .inr (.inr (.inl ⟨rfl, r2_convertS (h := h) hs⟩))
  | makeSlice t l c => exact .inr (.inr (.inr ⟨rfl, ro_makeSliceS (h := h) hs⟩))
  | makeFunc f first captured =>
    cases f with
    | func f => cases hs; exact .inr (.inr (.inr ⟨rfl, trivial⟩))
    | _ => cases hs
  | index t x i => exact .inl ⟨rfl, p0_pure (h := h) hs⟩
  | call c =>
    obtain ⟨callee, args, ts⟩ := c
    cases callee with
    | value f => exact .inr (.inr (.inr ⟨rfl, ro_callS (h := h) hs⟩))
    | invoke _ _ => cases hs
    | builtin b =>
      cases b with
      | len =>
        obtain ⟨l⟩ := args
        obtain ⟨k⟩ := ts
        match l, k, hs with
        | [x], [t], hs => exact .inl ⟨rfl, p0_lenS (h := h) hs⟩
        | [], _, hs => cases hs
        | _ :: _ :: _, _, hs => cases hs
        | [_], [], hs => cases hs
        | [_], _ :: _ :: _, hs => cases hs
      | append =>
        obtain ⟨l⟩ := args
        obtain ⟨k⟩ := ts
        match l, k, hs with
        | [s, x], [t, t'], hs => exact .inr (.inr (.inr ⟨rfl, ro_appendS (h := h) hs⟩))
        | [], _, hs => cases hs
        | [_], _, hs => cases hs
        | _ :: _ :: _ :: _, _, hs => cases hs
        | [_, _], [], hs => cases hs
        | [_, _], [_], hs => cases hs
        | [_, _], _ :: _ :: _ :: _, hs => cases hs
      | copy =>
        obtain ⟨l⟩ := args
        obtain ⟨k⟩ := ts
        match l, k, hs with
        | [s, x], [t, t'], hs => exact .inr (.inr (.inr ⟨rfl, ro_copyS (h := h) hs⟩))
        | [], _, hs => cases hs
        | [_], _, hs => cases hs
        | _ :: _ :: _ :: _, _, hs => cases hs
        | [_, _], [], hs => cases hs
        | [_, _], [_], hs => cases hs
        | [_, _], _ :: _ :: _ :: _, hs => cases hs
      | max => exact .inl ⟨rfl, p0_pure (h := h) hs⟩
      | min => exact .inl ⟨rfl, p0_pure (h := h) hs⟩
      | _ => cases hs
  | _ => cases hs
theorem step_ro {o : Oper} (hs : stepOf P o e h = some r) : EffRo h r.eff := by
  rcases shape hs with ⟨_, v, rfl⟩ | ⟨_, v, x, rfl, hx⟩ | ⟨_, v, rd, rfl⟩ | ⟨_, hr⟩
  · trivial
  · exact hx
  · trivial
  · exact hr
end
end Go.Am
end
section
set_option linter.unusedVariables false
set_option linter.unusedSimpArgs false
namespace Go.Am
open Go.RowKit

def okSlot (ns : Nat) : Operand → Bool
  | .tmp t => Nat.blt t ns
  | _ => true
def okDst (ns : Nat) : Option Tmp → Bool
  | some d => Nat.blt d ns
  | none => true
def okGuard (ns : Nat) (all : List Oper) : Option (Nat × Bool) → Bool
  | none => true
  | some (j, _) => okDst ns ((all[j]?).bind (·.dst))
def okOper (ns : Nat) (all : List Oper) (o : Oper) : Bool := okDst ns o.dst && o.op.operands.toList.all (okSlot ns) && okGuard ns all o.guard
def ERel (m : Mp) (e : Env) (a : Act) : Prop := ∀ t, t < a.tmps.size → VRel m (e.get t) (a.tmps.getD t undef)
def ESc (n : Nat) (e : Env) : Prop := ∀ t, Sc (· < n) (e.get t)
structure St (B : Nat) (w0 : World) (m : Mp) (e : Env) (h : Heap) (a : Act) (w : World) : Prop where
  heap : HRel B w0 m h.get w
  env : ERel m e a
  wf : HWf h
  sc : ESc h.next e
structure Evo (m m' : Mp) (h h' : Heap) (w w' : World) : Prop where
  c : CEvo (· < h.next) m m' h.get h'.get w w'
  a : AEvo h h'
theorem Evo.refl {m : Mp} {h : Heap} {w : World} (hw : HWf h) : Evo m m h h w w := ⟨CEvo.refl hw.lt, AEvo.refl hw⟩
theorem Evo.trans {m m1 m2 : Mp} {h h1 h2 : Heap} {w w1 w2 : World} (a : Evo m m1 h h1 w w1) (b : Evo m1 m2 h1 h2 w1 w2) : Evo m m2 h h2 w w2 := ⟨a.c.trans b.c fun x hx => Nat.lt_of_lt_of_le hx a.a.next, a.a.trans b.a⟩
/-- what is asked of calls: of the abstract heap alone -/
def CfWf (cf : CallF) : Prop :=
  ∀ f args h v h' q, cf f args h = some (v, h', q) → HWf h → (∀ v ∈ args, Sc (· < h.next) v) → HWf h' ∧ Sc (· < h'.next) v ∧ AEvo h h' ∧ (q = true → ∀ b, b < h.next → h'.get b = h.get b)
/-- what is asked of calls: of both machines -/
def CfOk (P : Program) (cf : CallF) (B : Nat) (w0 : World) : Prop :=
  ∀ f args h v h' q, cf f args h = some (v, h', q) → ∀ m w args', HWf h → (∀ v ∈ args, Sc (· < h.next) v) → HRel B w0 m h.get w → LRel m args args' →
    Calls P f args'.toArray w fun en w' => ∃ v' m', en = .returned v' ∧ VRel m' v v' ∧ HRel B w0 m' h'.get w' ∧ CEvo (· < h.next) m m' h.get h'.get w w'

theorem lt_of_blt {a b : Nat} (h : Nat.blt a b = true) : a < b := Nat.le_of_ble_eq_true h
theorem ev_rel {m : Mp} {e : Env} {a : Act} {ns : Nat} {x : Operand} (he : ERel m e a) (hx : okSlot ns x = true) (hn : ns ≤ a.tmps.size) : VRel m (ev e x) (a.eval x) := by
  cases x with
  | tmp t => exact he t (Nat.lt_of_lt_of_le (lt_of_blt hx) hn)
  | const v =>
    show VRel m (bif flat v then v else unk) v
    cases hf : flat v
    · exact .any v
    · exact .flat hf
  | global g => exact .any _
  | func f => exact .func _ _ _ _ _ rfl (fun i v v' h => by simp at h) rfl (fun i v v' h => by simp at h)
theorem ev_sc {n : Nat} {e : Env} (he : ESc n e) (x : Operand) : Sc (· < n) (ev e x) := by
  cases x with
  | tmp t => exact he t
  | const v =>
    show Sc (· < n) (bif flat v then v else unk)
    cases hf : flat v
    · exact .unk
    · exact .of_flat hf
  | global g => exact .unk
  | func f => exact .func _ _ _ (fun i v h => by simp at h) (fun i v h => by simp at h)
theorem ERel.put {m : Mp} {e : Env} {a : Act} (he : ERel m e a) {v v' : Value} (hv : VRel m v v') (d : Option Tmp) : ERel m (e.put d v) (a.put d v') := by
  cases d with
  | none => exact he
  | some d =>
    intro t ht
    simp only [Act.put, Array.size_setIfInBounds] at ht
    simp only [Env.put_some, Env.get_set, Act.put]
    by_cases hd : d = t
    · subst hd
      simp [ht, hv]
    · rw [if_neg hd]
      have := he t ht
      simpa [Array.getD_eq_getD_getElem?, Array.getElem?_setIfInBounds_ne hd] using this
theorem ESc.put {n : Nat} {e : Env} (he : ESc n e) {v : Value} (hv : Sc (· < n) v) (d : Option Tmp) : ESc n (e.put d v) := by
  cases d with
  | none => exact he
  | some d =>
    intro t
    simp only [Env.put_some, Env.get_set]
    split
    · exact hv
    · exact he t
theorem ERel.moved {m m' : Mp} {n : Nat} {e : Env} {a : Act} (he : ERel m e a) (hs : ESc n e) (hm : ∀ b, b < n → m' b = m b) : ERel m' e a := fun t ht => (he t ht).moved hm (hs t)
theorem put_size (a : Act) (d : Option Tmp) (v : Value) : (a.put d v).tmps.size = a.tmps.size := by cases d <;> simp [Act.put]
theorem put_defers (a : Act) (d : Option Tmp) (v : Value) : (a.put d v).defers = a.defers := by cases d <;> rfl
theorem wanted_rel {m : Mp} {e : Env} {a : Act} {ns : Nat} {os : Array Oper} {o : Oper} {b : Bool} (he : ∀ j want d, o.guard = some (j, want) → (os[j]?).bind (·.dst) = some d → VRel m (e.get d) (a.tmps.getD d undef)) (hn : ns ≤ a.tmps.size) (hg : okGuard ns os.toList o.guard = true) (hw : wantedA os.toList o e = some b) :
    Region.wanted o (yielded os a.tmps) = b := by
  unfold wantedA at hw
  unfold Region.wanted
  cases hgd : o.guard with
  | none => rw [hgd] at hw; cases hw; rfl
  | some jw =>
    obtain ⟨j, want⟩ := jw
    rw [hgd] at hw hg
    dsimp only at hw ⊢
    simp only [okGuard, Array.getElem?_toList] at hw hg
    unfold yielded
    cases hd : (os[j]?).bind (·.dst) with
    | none => rw [hd] at hw; cases hw; rfl
    | some d =>
      rw [hd] at hw hg
      dsimp only at hw ⊢
      have hlt : d < a.tmps.size := Nat.lt_of_lt_of_le (lt_of_blt hg) hn
      have hr := he j want d hgd hd
      have ht : a.tmps[d]? = some (a.tmps.getD d undef) := by simp [hlt]
      simp only [Option.bind_some, ht]
      revert hr hw
      generalize e.get d = u
      generalize a.tmps.getD d undef = u'
      intro hw hr
      cases hr with
      | any _ => cases hw
      | same _ hf =>
        cases u <;> first
          | (cases hw; rfl)
          | (cases hw; done)
          | (rename_i bb; cases hw; cases bb <;> cases want <;> rfl)
      | ptr _ _ => cases hw; rfl
      | sl _ _ _ _ _ _ => cases hw; rfl
      | agg _ _ _ _ => cases hw; rfl
      | tuple _ _ _ _ => cases hw; rfl
      | iface _ _ _ _ => cases hw; rfl
      | func _ _ _ _ _ _ _ _ _ => cases hw; rfl
section
variable {P : Program} {cf : CallF} {B : Nat} {w0 : World} {ns : Nat} {os : Array Oper} {Q : Exit → Act → World → Prop}
theorem okOper_parts {o : Oper} {all : List Oper} (h : okOper ns all o = true) : okDst ns o.dst = true ∧ (∀ x ∈ o.op.operands, okSlot ns x = true) ∧ okGuard ns all o.guard = true := by
  unfold okOper at h
  simp only [Bool.and_eq_true] at h
  exact ⟨h.1.1, fun x hx => List.all_eq_true.1 h.1.2 x (by simpa using hx), h.2⟩
theorem St.pre {m : Mp} {e : Env} {h : Heap} {a : Act} {w : World} {o : Oper} (hs : St B w0 m e h a w) (hn : ns ≤ a.tmps.size) (ho : ∀ x ∈ o.op.operands, okSlot ns x = true) : Pre P o e a B m h w (· < h.next) :=
  ⟨fun x hx => ev_rel hs.env (ho x hx) hn, fun x _ => ev_sc hs.sc x, fun b x hb => (hs.wf.ok b x hb).plain, hs.heap.base⟩
theorem more_lt {h : Heap} {f : Eff} (b : Nat) (hb : more (· < h.next) h f b) : b < (h.eff f).next := by
  rcases hb with hb | ⟨hb, rfl⟩
  · exact Nat.lt_of_lt_of_le hb (h.next_eff f)
  · cases f with
    | non => cases hb
    | set _ _ => cases hb
    | new x => exact Nat.lt_succ_self _
    | mv k x => exact Nat.lt_succ_self _
theorem live_of_ok {h : Heap} {p : Nat → Prop} {f : Eff} (hf : EffOk h p f) : Live h.get f := by
  cases f with
  | non => trivial
  | new x => trivial
  | set c x => exact hf.1
  | mv c x => exact hf.1
/-- one operation -/
theorem op_sim (hcw : CfWf cf) (hcf : CfOk P cf B w0) {o : Oper} {e : Env} {h : Heap} {m : Mp} {a : Act} {w : World} (hs : St B w0 m e h a w) (hn : ns ≤ a.tmps.size) (ho : okOper ns os.toList o = true)
    {k : Env → Heap → Option (Env × Heap)} {r : Env × Heap} (hr : op1 P cf os.toList o k e h = some r) {K : Act → World → Prop}
    (hK : ∀ v e1 h1 m1 a1 w1, e1 = e.put o.dst v → St B w0 m1 e1 h1 a1 w1 → Evo m m1 h h1 w w1 → a1.defers = a.defers → a1.tmps.size = a.tmps.size → k e1 h1 = some r → K a1 w1) :
    if Region.wanted o (yielded os a.tmps) then o.wp P a w K Q else K (a.put o.dst undef) w := by
  obtain ⟨o1, o2, o3⟩ := okOper_parts ho
  unfold op1 at hr
  cases hw : wantedA os.toList o e with
  | none => rw [hw] at hr; cases hr
  | some b =>
    rw [hw] at hr
    have hwant := wanted_rel (fun j want d hg hd => hs.env d (Nat.lt_of_lt_of_le (by have o3' := o3; rw [hg] at o3'; simp only [okGuard, Array.getElem?_toList] at o3'; rw [hd] at o3'; exact lt_of_blt o3') hn)) hn o3 hw
    rw [hwant]
    cases b with
    | false =>
      simp only [Bool.false_eq_true, if_false]
      refine hK undef _ h m _ w rfl ⟨hs.heap, hs.env.put ?_ _, hs.wf, hs.sc.put .undef _⟩ (Evo.refl hs.wf) (put_defers _ _ _) (put_size _ _ _) hr
      exact .tuple _ _ rfl fun i v v' h => by simp at h
    | true =>
      simp only [if_true]
      dsimp only at hr
      cases hst : stepOf P o e h with
      | none => rw [hst] at hr; cases hr
      | some res =>
        rw [hst] at hr
        have hpre := hs.pre (P := P) (o := o) hn o2
        have hreads : Reads B m h w (· < h.next) res.rd := fun b _ x hx => ⟨hs.heap.blk b x hx, (hs.wf.ok b x hx).sc⟩
        have hsim := sim hpre hst hreads fun _ => Nat.lt_irrefl _
        have hok := step_ok hs.wf (fun x _ => ev_sc hs.sc x) hst fun b _ x hx => (hs.wf.ok b x hx).sc
        unfold Oper.wp
        cases res with
        | val v rd f =>
          obtain ⟨m', v', w', h1, h2, h3⟩ := hsim
          obtain ⟨k1, k2⟩ := hs.heap.eff (p := (· < h.next)) (fun b x hb => ⟨hs.wf.lt b x hb, (hs.wf.ok b x hb).sc⟩) (fun _ => Nat.lt_irrefl _) (live_of_ok hok.1) h3
          rw [← effG_heap] at k1 k2
          have k2 : Evo _ _ _ _ _ _ := ⟨k2, AEvo.eff hs.wf hok.1 (step_ro hst)⟩
          rw [h1, Oper.upon_value]
          have hr : k (e.put o.dst v) (h.eff f) = some r := hr
          exact hK v _ _ m' _ w' rfl ⟨k1, (hs.env.moved hs.sc fun b hb => h3.keep b (Nat.ne_of_lt hb)).put h2 _, hs.wf.eff hok.1, ESc.put (fun t => (hs.sc t).mono fun b hb => Nat.lt_of_lt_of_le hb (h.next_eff f)) (hok.2.1.mono more_lt) _⟩ k2 (put_defers _ _ _) (put_size _ _ _) hr
        | unit rd f =>
          obtain ⟨m', w', h1, h3⟩ := hsim
          obtain ⟨k1, k2⟩ := hs.heap.eff (p := (· < h.next)) (fun b x hb => ⟨hs.wf.lt b x hb, (hs.wf.ok b x hb).sc⟩) (fun _ => Nat.lt_irrefl _) (live_of_ok hok.1) h3
          rw [← effG_heap] at k1 k2
          have k2 : Evo _ _ _ _ _ _ := ⟨k2, AEvo.eff hs.wf hok.1 (step_ro hst)⟩
          rw [h1, Oper.upon_skip]
          have hr : k (e.put o.dst undef) (h.eff f) = some r := hr
          exact hK undef _ _ m' _ w' rfl ⟨k1, (hs.env.moved hs.sc fun b hb => h3.keep b (Nat.ne_of_lt hb)).put (.tuple _ _ rfl fun i v v' h => by simp at h) _, hs.wf.eff hok.1, ESc.put (fun t => (hs.sc t).mono fun b hb => Nat.lt_of_lt_of_le hb (h.next_eff f)) .undef _⟩ k2 (put_defers _ _ _) (put_size _ _ _) hr
        | enter g args =>
          obtain ⟨args', h1, h2⟩ := hsim
          rw [h1, Oper.upon_enter]
          have hr : (match cf g args h with | some (v, h', _) => k (e.put o.dst v) h' | none => none) = some r := hr
          cases hc : cf g args h with
          | none => rw [hc] at hr; cases hr
          | some vhq =>
            obtain ⟨v, h', q⟩ := vhq
            rw [hc] at hr
            obtain ⟨k3, k4, k5, _⟩ := hcw g args h v h' q hc hs.wf hok
            refine (hcf g args h v h' q hc m w args' hs.wf hok hs.heap h2).mono ?_
            rintro en w' ⟨v', m', rfl, k1, k2, k6⟩
            exact hK v _ _ m' _ w' rfl ⟨k2, (hs.env.moved hs.sc k6.keep).put k1 _, k3, ESc.put (fun t => (hs.sc t).mono fun b hb => Nat.lt_of_lt_of_le hb k5.next) k4 _⟩ ⟨k6, k5⟩ (put_defers _ _ _) (put_size _ _ _) hr
theorem ops_sim (hcw : CfWf cf) (hcf : CfOk P cf B w0) : ∀ (rest : List Oper) (e : Env) (h : Heap) (e' : Env) (h' : Heap), ops P cf os.toList rest e h = some (e', h') → rest.all (okOper ns os.toList) = true →
    ∀ (m : Mp) (a : Act) (w : World), St B w0 m e h a w → ns ≤ a.tmps.size →
    (∀ m' a' w', St B w0 m' e' h' a' w' → Evo m m' h h' w w' → a'.defers = a.defers → a'.tmps.size = a.tmps.size → Q .normal a' w') → wpList P os Q rest a w
  | [], e, h, e', h', hr, _, m, a, w, hs, hn, hQ => by
    cases hr
    exact wpList_nil (hQ m a w hs (Evo.refl hs.wf) rfl rfl)
  | o :: rest, e, h, e', h', hr, hok, m, a, w, hs, hn, hQ => by
    simp only [List.all_cons, Bool.and_eq_true] at hok
    refine wpList_step fun K hK => ?_
    refine op_sim hcw hcf hs hn hok.1 (k := ops P cf os.toList rest) hr fun v e1 h1 m1 a1 w1 _ hs1 ev1 hd1 hz1 hr1 => hK _ _ ?_
    exact ops_sim hcw hcf rest e1 h1 e' h' hr1 hok.2 m1 a1 w1 hs1 (by rw [hz1]; exact hn) fun m' a' w' hs' ev' hd' hz' => hQ m' a' w' hs' (ev1.trans ev') (hd'.trans hd1) (hz'.trans hz1)
end
end Go.Am
end
section
set_option linter.unusedVariables false
set_option linter.unusedSimpArgs false
namespace Go.Am
open Go.RowKit

/-! ### Which operations wait for which -/
def maskOf (acc : List Nat) (o : Oper) : Nat := o.after.toList.foldl (fun s e => bif Region.binds .any e then s ||| 2 ^ e.on ||| acc.getD e.on 0 else s) 0
def masksGo : List Oper → List Nat → List Nat
  | [], acc => acc
  | o :: r, acc => masksGo r (acc ++ [maskOf acc o])
def masks (l : List Oper) : List Nat := masksGo l []
def edgeOk (i : Nat) (o : Oper) : Bool := o.after.toList.all fun e => !Region.binds .any e || Nat.blt e.on i
def needs (a b : Nat) : Bool := match a, b with
  | 1, 2 | 1, 3 | 2, 3 | 3, 2 | 3, 3 => true
  | _, _ => false
def pairStat (os : Array Oper) (d : Option (List (Nat × Nat))) (i j : Nat) : Bool := match os[i]?, os[j]? with
  | some x, some y => x.apart os y && (match d with | none => true | some ps => !needs (kindOf x.op) (kindOf y.op) || ps.any fun p => Nat.beq p.1 i && Nat.beq p.2 j)
  | _, _ => true
def okDraw (os : Array Oper) (d : Option (List (Nat × Nat))) : Bool :=
  (List.range os.size).all fun j => edgeOk j (os.getD j default) && (List.range j).all fun i => ((masks os.toList).getD j 0).testBit i || pairStat os d i j

theorem fold_bit {acc : List Nat} {i : Nat} : ∀ (l : List Edge) (s : Nat), (l.foldl (fun s e => bif Region.binds .any e then s ||| 2 ^ e.on ||| acc.getD e.on 0 else s) s).testBit i = true →
    s.testBit i = true ∨ ∃ e ∈ l, Region.binds .any e = true ∧ (i = e.on ∨ (acc.getD e.on 0).testBit i = true)
  | [], s, h => .inl h
  | e :: l, s, h => by
    simp only [List.foldl_cons] at h
    rcases fold_bit l _ h with h | ⟨e', he, h1, h2⟩
    · cases hb : Region.binds .any e
      · rw [hb] at h; exact .inl h
      · rw [hb] at h
        simp only [cond_true, Nat.testBit_or, Bool.or_eq_true, Nat.testBit_two_pow, decide_eq_true_eq] at h
        rcases h with (h | h) | h
        · exact .inl h
        · exact .inr ⟨e, by simp, hb, .inl h.symm⟩
        · exact .inr ⟨e, by simp, hb, .inr h⟩
    · exact .inr ⟨e', List.mem_cons_of_mem _ he, h1, h2⟩
theorem masksGo_spec {S : Nat → Bool} : ∀ (rest pre : List Oper) (acc : List Nat), acc.length = pre.length →
    (∀ (j : Nat) (o : Oper) (e : Edge), (pre ++ rest)[j]? = some o → S j = true → e ∈ o.after → Region.binds .any e = true → S e.on = true) →
    (∀ k i, S k = true → (acc.getD k 0).testBit i = true → S i = true) → ∀ k i, S k = true → ((masksGo rest acc).getD k 0).testBit i = true → S i = true
  | [], pre, acc, _, _, ha => ha
  | o :: rest, pre, acc, hl, hS, ha => by
    refine masksGo_spec rest (pre ++ [o]) (acc ++ [maskOf acc o]) (by simp [hl]) (by simpa using hS) fun k i hk hb => ?_
    rw [List.getD_eq_getElem?_getD, List.getElem?_append] at hb
    by_cases hlt : k < acc.length
    · rw [if_pos hlt] at hb
      exact ha k i hk (by rw [List.getD_eq_getElem?_getD]; exact hb)
    · rw [if_neg hlt] at hb
      by_cases he : k = acc.length
      · subst he
        simp only [Nat.sub_self, List.getElem?_cons_zero, Option.getD_some] at hb
        rcases fold_bit _ _ hb with h | ⟨e, he, h1, h2⟩
        · simp at h
        · have hon := hS acc.length o e (by rw [hl]; simp) hk (by simpa using he) h1
          rcases h2 with rfl | h2
          · exact hon
          · exact ha e.on i hon h2
      · obtain ⟨z, hz⟩ : ∃ z, k - acc.length = z + 1 := ⟨k - acc.length - 1, by omega⟩
        rw [hz] at hb
        simp at hb
theorem masks_spec {S : Nat → Bool} {l : List Oper} (hS : ∀ (j : Nat) (o : Oper) (e : Edge), l[j]? = some o → S j = true → e ∈ o.after → Region.binds .any e = true → S e.on = true) {k i : Nat} (hk : S k = true)
    (hb : ((masks l).getD k 0).testBit i = true) : S i = true :=
  masksGo_spec l [] [] rfl (by simpa using hS) (fun k i _ h => by simp at h) k i hk hb

/-! ### What a key holds when some of its writers have written -/
open Classical in
noncomputable def KV {α : Type} (x : Nat → α) (hit : Nat → Prop) (L : Nat → Bool) : Nat → α
  | 0 => x 0
  | k + 1 => if L k = true ∧ hit k then x (k + 1) else KV x hit L k
theorem KV_agree {α : Type} {x : Nat → α} {hit : Nat → Prop} {L L' : Nat → Bool} : ∀ {n : Nat}, (∀ k, k < n → hit k → L k = L' k) → KV x hit L n = KV x hit L' n
  | 0, _ => rfl
  | n + 1, h => by
    have ih := KV_agree (x := x) (n := n) fun k hk => h k (Nat.lt_succ_of_lt hk)
    unfold KV
    by_cases hh : hit n
    · rw [h n (Nat.lt_succ_self n) hh, ih]
    · rw [if_neg (fun q => hh q.2), if_neg (fun q => hh q.2), ih]
theorem KV_run {α : Type} {x : Nat → α} {hit : Nat → Prop} : ∀ {n : Nat}, (∀ k, k < n → ¬ hit k → x (k + 1) = x k) → ∀ i, i ≤ n → KV x hit (fun k => decide (k < i)) n = x i
  | 0, _, i, hi => by
    have : i = 0 := by omega
    subst this; rfl
  | n + 1, h, i, hi => by
    have ih := KV_run (x := x) (hit := hit) (n := n) fun k hk => h k (Nat.lt_succ_of_lt hk)
    unfold KV
    by_cases he : i = n + 1
    · subst he
      by_cases hh : hit n
      · rw [if_pos ⟨by simp, hh⟩]
      · rw [if_neg (fun q => hh q.2), h n (Nat.lt_succ_self n) hh]
        rw [← ih n (Nat.le_refl n)]
        exact KV_agree fun k hk _ => by simp; omega
    · rw [if_neg (fun q => by have := q.1; simp at this; omega)]
      exact ih i (by omega)

/-! ### The run in the order of the text -/
section
variable {P : Program} {cf : CallF} {B : Nat} {w0 : World} {ns : Nat} {os : Array Oper}
structure Run (P : Program) (cf : CallF) (os : List Oper) (all : List Oper) (E : Nat → Env) (H : Nat → Heap) (F : Nat → Foot) : Prop where
  step : ∀ i o, os[i]? = some o → opF P cf all o (E i) (H i) = some (E (i + 1), H (i + 1), F i)
theorem run_of_opsF {all : List Oper} : ∀ (l : List Oper) (e : Env) (h : Heap) (e' : Env) (h' : Heap) (fs : List Foot), opsF P cf all l e h = some (e', h', fs) →
    ∃ E H F, E 0 = e ∧ H 0 = h ∧ E l.length = e' ∧ H l.length = h' ∧ Run P cf l all E H F ∧ ∀ i, i < l.length → fs[i]? = some (F i)
  | [], e, h, e', h', fs, hr => by
    cases hr
    exact ⟨fun _ => e, fun _ => h, fun _ => foot0 h, rfl, rfl, rfl, rfl, ⟨fun i o hi => by simp at hi⟩, fun i hi => by simp at hi⟩
  | o :: l, e, h, e', h', fs, hr => by
    unfold opsF at hr
    cases h1 : opF P cf all o e h with
    | none => rw [h1] at hr; cases hr
    | some r1 =>
      obtain ⟨e1, hh1, f1⟩ := r1
      rw [h1] at hr
      dsimp only at hr
      cases h2 : opsF P cf all l e1 hh1 with
      | none => rw [h2] at hr; cases hr
      | some r2 =>
        obtain ⟨e2, hh2, fs2⟩ := r2
        rw [h2] at hr
        cases hr
        obtain ⟨E, H, F, k1, k2, k3, k4, k5, k6⟩ := run_of_opsF l e1 hh1 _ _ _ h2
        refine ⟨fun i => match i with | 0 => e | i + 1 => E i, fun i => match i with | 0 => h | i + 1 => H i, fun i => match i with | 0 => f1 | i + 1 => F i, rfl, rfl, k3, k4, ⟨fun i o' hi => ?_⟩, fun i hi => ?_⟩
        · cases i with
          | zero => simp at hi; subst hi; simpa [k1, k2] using h1
          | succ i => exact k5.step i o' (by simpa using hi)
        · cases i with
          | zero => rfl
          | succ i => simpa using k6 i (by simpa using hi)
/-- what one step of that run is -/
inductive Step1 (P : Program) (cf : CallF) (all : List Oper) (o : Oper) (e e' : Env) (h h' : Heap) (F : Foot) : Prop
  | skip (hw : wantedA all o e = some false) (he : e' = e.put o.dst undef) (hh : h' = h) (hF : F = foot0 h)
  | plain (hw : wantedA all o e = some true) (r : Res) (v : Value) (hs : stepOf P o e h = some r) (hr : (∃ rd f, r = .val v rd f) ∨ (v = undef ∧ ∃ rd f, r = .unit rd f)) (he : e' = e.put o.dst v) (hh : h' = h.eff r.eff) (hF : F = Foot.mk1 h r.rd r.eff)
  | call (hw : wantedA all o e = some true) (g : FuncId) (args : List Value) (v : Value) (q : Bool) (hs : stepOf P o e h = some (.enter g args)) (hc : cf g args h = some (v, h', q)) (he : e' = e.put o.dst v) (hF : F = ⟨true, !q, h.next, h'.next, [], []⟩)
theorem step1_of_opF {all : List Oper} {o : Oper} {e e' : Env} {h h' : Heap} {F : Foot} (hr : opF P cf all o e h = some (e', h', F)) : Step1 P cf all o e e' h h' F := by
  unfold opF at hr
  cases hw : wantedA all o e with
  | none => rw [hw] at hr; cases hr
  | some b =>
    rw [hw] at hr
    cases b with
    | false => cases hr; exact .skip hw rfl rfl rfl
    | true =>
      dsimp only at hr
      cases hs : stepOf P o e h with
      | none => rw [hs] at hr; cases hr
      | some r =>
        rw [hs] at hr
        cases r with
        | val v rd f => cases hr; exact .plain hw _ v hs (.inl ⟨_, _, rfl⟩) rfl rfl rfl
        | unit rd f => cases hr; exact .plain hw _ undef hs (.inr ⟨rfl, _, _, rfl⟩) rfl rfl rfl
        | enter g args =>
          dsimp only at hr
          cases hc : cf g args h with
          | none => rw [hc] at hr; cases hr
          | some r =>
            obtain ⟨v, h1, q⟩ := r
            rw [hc] at hr
            cases hr
            exact .call hw g args v q hs hc rfl rfl
end
end Go.Am
end
section
set_option linter.unusedVariables false
set_option linter.unusedSimpArgs false
namespace Go.Am
open Go.RowKit
section
variable {P : Program} {cf : CallF} {os : Array Oper} {E : Nat → Env} {H : Nat → Heap} {F : Nat → Foot}

/-- blocks written, blocks looked at, blocks made by step i -/
def Wr (H : Nat → Heap) (F : Nat → Foot) (i b : Nat) : Prop := ((F i).wild = true ∧ b < (H i).next) ∨ b ∈ (F i).wr
def Tch (H : Nat → Heap) (F : Nat → Foot) (i b : Nat) : Prop := ((F i).all = true ∧ b < (H i).next) ∨ b ∈ (F i).rd
def Made (H : Nat → Heap) (i b : Nat) : Prop := (H i).next ≤ b ∧ b < (H (i + 1)).next
def Hit (H : Nat → Heap) (F : Nat → Foot) (i b : Nat) : Prop := Wr H F i b ∨ Made H i b
structure Facts (P : Program) (cf : CallF) (os : Array Oper) (E : Nat → Env) (H : Nat → Heap) (F : Nat → Foot) : Prop where
  s1 : ∀ i o, os[i]? = some o → Step1 P cf os.toList o (E i) (E (i + 1)) (H i) (H (i + 1)) (F i)
  wf : ∀ i, i ≤ os.size → HWf (H i)
  sc : ∀ i, i ≤ os.size → ESc (H i).next (E i)
  evo : ∀ i, i < os.size → AEvo (H i) (H (i + 1))
theorem get_at {i : Nat} (hi : i < os.size) : os[i]? = some os[i] := by simp [hi]
theorem facts_step (hcw : CfWf cf) {o : Oper} {e e' : Env} {h h' : Heap} {f : Foot} (h1 : Step1 P cf os.toList o e e' h h' f) (hw : HWf h) (hs : ESc h.next e) : HWf h' ∧ ESc h'.next e' ∧ AEvo h h' := by
  cases h1 with
  | skip hw' he hh hF => subst he; subst hh; exact ⟨hw, hs.put .undef _, .refl hw⟩
  | plain hw' r v hst hr he hh hF =>
    subst he; subst hh
    have hok := step_ok hw (fun x _ => ev_sc hs x) hst fun b _ x hx => (hw.ok b x hx).sc
    have hro := step_ro hst
    have hmono : ∀ t, Sc (· < (h.eff r.eff).next) (e.get t) := fun t => (hs t).mono fun b hb => Nat.lt_of_lt_of_le hb (h.next_eff _)
    rcases hr with ⟨rd, ff, rfl⟩ | ⟨rfl, rd, ff, rfl⟩
    · exact ⟨hw.eff hok.1, ESc.put hmono (hok.2.1.mono more_lt) _, AEvo.eff hw hok.1 hro⟩
    · exact ⟨hw.eff hok.1, ESc.put hmono .undef _, AEvo.eff hw hok.1 hro⟩
  | call hw' g args v q hst hc he hF =>
    subst he
    have hok := step_ok hw (fun x _ => ev_sc hs x) hst fun b _ x hx => (hw.ok b x hx).sc
    obtain ⟨k1, k2, k3, _⟩ := hcw g args h v h' q hc hw hok
    exact ⟨k1, ESc.put (fun t => (hs t).mono fun b hb => Nat.lt_of_lt_of_le hb k3.next) k2 _, k3⟩
theorem facts_of_run (hcw : CfWf cf) (hr : Run P cf os.toList os.toList E H F) (hw : HWf (H 0)) (hs : ESc (H 0).next (E 0)) : Facts P cf os E H F := by
  have st : ∀ i o, os[i]? = some o → Step1 P cf os.toList o (E i) (E (i + 1)) (H i) (H (i + 1)) (F i) := fun i o hi => step1_of_opF (hr.step i o (by simpa using hi))
  have key : ∀ i, i ≤ os.size → HWf (H i) ∧ ESc (H i).next (E i) := by
    intro i
    induction i with
    | zero => exact fun _ => ⟨hw, hs⟩
    | succ i ih =>
      intro hi
      obtain ⟨k1, k2⟩ := ih (by omega)
      obtain ⟨j1, j2, _⟩ := facts_step hcw (st i _ (get_at (by omega))) k1 k2
      exact ⟨j1, j2⟩
  exact ⟨st, fun i hi => (key i hi).1, fun i hi => (key i hi).2, fun i hi => (facts_step hcw (st i _ (get_at hi)) (key i (by omega)).1 (key i (by omega)).2).2.2⟩
theorem wr_live {o : Oper} {e : Env} {h : Heap} {r : Res} (hw : HWf h) (hs : ESc h.next e) (hst : stepOf P o e h = some r) : ∀ b ∈ r.eff.wr, b ∈ r.rd ∧ b < h.next := by
  have hok := step_ok hw (fun x _ => ev_sc hs x) hst fun b _ x hx => (hw.ok b x hx).sc
  intro b hb
  cases r with
  | val v rd f =>
    refine ⟨hok.2.2 b hb, ?_⟩
    have := live_of_ok hok.1
    cases f with
    | non => cases hb
    | new x => cases hb
    | set c x => simp [Res.eff, Eff.wr] at hb; subst hb; obtain ⟨y, hy⟩ := this; exact hw.lt _ y hy
    | mv c x => simp [Res.eff, Eff.wr] at hb; subst hb; obtain ⟨y, hy⟩ := this; exact hw.lt _ y hy
  | unit rd f =>
    refine ⟨hok.2 b hb, ?_⟩
    have := live_of_ok hok.1
    cases f with
    | non => cases hb
    | new x => cases hb
    | set c x => simp [Res.eff, Eff.wr] at hb; subst hb; obtain ⟨y, hy⟩ := this; exact hw.lt _ y hy
    | mv c x => simp [Res.eff, Eff.wr] at hb; subst hb; obtain ⟨y, hy⟩ := this; exact hw.lt _ y hy
  | enter g args => cases hb
section
variable (hf : Facts P cf os E H F)
include hf
theorem Facts.mono {i j : Nat} (hij : i ≤ j) (hj : j ≤ os.size) : (H i).next ≤ (H j).next := by
  induction j with
  | zero => have : i = 0 := by omega
            subst this; exact Nat.le_refl _
  | succ j ih =>
    by_cases he : i = j + 1
    · subst he; exact Nat.le_refl _
    · exact Nat.le_trans (ih (by omega) (by omega)) (hf.evo j (by omega)).next
theorem Facts.wr_tch {i : Nat} (hi : i < os.size) {b : Nat} (hb : Wr H F i b) : Tch H F i b ∧ b < (H i).next := by
  cases hf.s1 i _ (get_at hi) with
  | skip hw he hh hF => rw [Wr, hF] at hb; rcases hb with ⟨hb, _⟩ | hb <;> cases hb
  | plain hw r v hst hr he hh hF =>
    have hl := wr_live (hf.wf i (by omega)) (hf.sc i (by omega)) hst
    rw [Wr, hF] at hb
    rcases hb with ⟨hb, _⟩ | hb
    · cases hb
    · obtain ⟨h1, h2⟩ := hl b hb
      exact ⟨.inr (by rw [hF]; exact h1), h2⟩
  | call hw g args v q hst hc he hF =>
    rw [Wr, hF] at hb
    rcases hb with ⟨_, hb⟩ | hb
    · exact ⟨.inl ⟨by rw [hF], hb⟩, hb⟩
    · cases hb
theorem Facts.same_heap (hcw : CfWf cf) {i : Nat} (hi : i < os.size) {b : Nat} (hb : ¬ Hit H F i b) : (H (i + 1)).get b = (H i).get b := by
  have hge : ∀ {h' : Heap}, HWf h' → (H i).next ≤ b → h'.next ≤ b → h'.get b = (H i).get b := by
    intro h' hw' h1 h2
    cases hg : (H i).get b with
    | some x => have := (hf.wf i (by omega)).lt b x hg; omega
    | none =>
      cases hg' : h'.get b with
      | some x => have := hw'.lt b x hg'; omega
      | none => rfl
  cases hf.s1 i _ (get_at hi) with
  | skip hw he hh hF => rw [hh]
  | plain hw r v hst hr he hh hF =>
    rw [hh, effG_heap]
    have hnw : b ∉ r.eff.wr := fun hh' => hb (.inl (.inr (by rw [hF]; exact hh')))
    have hnm : ¬ Made H i b := fun hh' => hb (.inr hh')
    unfold Made at hnm
    rw [hh] at hnm
    cases hfe : r.eff with
    | non => rfl
    | new x =>
      rw [hfe] at hnm
      have : (Heap.eff (H i) (.new x)).next = (H i).next + 1 := rfl
      rw [this] at hnm
      simp only [effG]; rw [if_neg (by omega)]
    | set c x =>
      rw [hfe] at hnw
      simp only [effG]; rw [if_neg (fun h1 => hnw (by simp [Eff.wr, h1]))]
    | mv c x =>
      rw [hfe] at hnw hnm
      have : (Heap.eff (H i) (.mv c x)).next = (H i).next + 1 := rfl
      rw [this] at hnm
      simp only [effG]; rw [if_neg (by omega), if_neg (fun h1 => hnw (by simp [Eff.wr, h1]))]
  | call hw g args v q hst hc he hF =>
    have hok := step_ok (hf.wf i (by omega)) (fun x _ => ev_sc (hf.sc i (by omega)) x) hst fun b _ x hx => ((hf.wf i (by omega)).ok b x hx).sc
    obtain ⟨k1, k2, k3, k4⟩ := hcw g args (H i) v (H (i + 1)) q hc (hf.wf i (by omega)) hok
    by_cases hlt : b < (H i).next
    · cases q with
      | true => exact k4 rfl b hlt
      | false => exact absurd (.inl (.inl ⟨by rw [hF]; rfl, hlt⟩)) hb
    · have hnm : ¬ Made H i b := fun hh' => hb (.inr hh')
      unfold Made at hnm
      exact hge k1 (by omega) (by omega)
theorem Facts.same_env {i : Nat} {o : Oper} (hi : os[i]? = some o) {t : Tmp} (ht : o.dst ≠ some t) : (E (i + 1)).get t = (E i).get t := by
  have put : ∀ (e : Env) (v : Value), (e.put o.dst v).get t = e.get t := by
    intro e v
    cases hd : o.dst with
    | none => rfl
    | some d => rw [Env.put_some, Env.get_set_ne _ _ (fun hh => ht (by rw [hd, hh]))]
  cases hf.s1 i o hi with
  | skip hw he hh hF => rw [he, put]
  | plain hw r v hst hr he hh hF => rw [he, put]
  | call hw g args v q hst hc he hF => rw [he, put]
end

/-! ### Unordered steps -/
/-- an earlier step i and a later step j, neither waiting for the other -/
structure Free (H : Nat → Heap) (F : Nat → Foot) (i j : Nat) : Prop where
  c1 : ∀ b, Wr H F i b → ¬ Tch H F j b
  c2 : ∀ b, Wr H F j b → ¬ Tch H F i b
  c3 : ∀ b, Tch H F j b → ¬ Made H i b
theorem quiet_pair {a b : Foot} (ha : quietFoot a = true) (hb : quietFoot b = true) : pairOk a b = true := by
  simp only [quietFoot, Bool.and_eq_true, Bool.not_eq_true'] at ha hb
  obtain ⟨⟨a1, a2⟩, a3⟩ := ha
  obtain ⟨⟨b1, b2⟩, b3⟩ := hb
  have a2' : a.wr = [] := by simpa using a2
  have b2' : b.wr = [] := by simpa using b2
  have a3' : a.lo = a.hi := Nat.eq_of_beq_eq_true a3
  simp only [pairOk, a1, b1, a2', b2', apartL, List.all_nil, List.isEmpty_nil, a3', Bool.not_false, Bool.true_and, Bool.or_true, Bool.and_true, List.append_nil, List.all_eq_true]
  simp only [Nat.beq_refl, Bool.or_true, Bool.true_and, Bool.and_true, List.all_eq_true]
  intro x _
  cases hx : Nat.blt x a.hi
  · have : ¬ x < a.hi := fun h => by rw [show Nat.blt x a.hi = true from Nat.ble_eq_true_of_le h] at hx; cases hx
    rw [show Nat.ble a.hi x = true from Nat.ble_eq_true_of_le (by omega)]; rfl
  · rfl
theorem foot_lohi (hf : Facts P cf os E H F) {i : Nat} (hi : i < os.size) : (F i).lo = (H i).next ∧ (F i).hi = (H (i + 1)).next := by
  cases hf.s1 i _ (get_at hi) with
  | skip hw he hh hF => rw [hF, hh]; exact ⟨rfl, rfl⟩
  | plain hw r v hst hr he hh hF => rw [hF, hh]; exact ⟨rfl, rfl⟩
  | call hw g args v q hst hc he hF => rw [hF]; exact ⟨rfl, rfl⟩
theorem apartL_no {a b : List Nat} (h : apartL a b = true) {x : Nat} (ha : x ∈ a) (hb : x ∈ b) : False := by
  have := List.all_eq_true.1 (List.all_eq_true.1 h x ha) x hb
  simp at this
theorem free_of_pair (hf : Facts P cf os E H F) {i j : Nat} (hi : i < os.size) (hj : j < os.size) (h : pairOk (F i) (F j) = true) : Free H F i j := by
  obtain ⟨l1, l2⟩ := foot_lohi hf hi
  simp only [pairOk, Bool.and_eq_true, Bool.not_eq_true', Bool.or_eq_true] at h
  obtain ⟨⟨⟨⟨⟨⟨h1, h2⟩, h3⟩, h4⟩, h5⟩, h6⟩, h7⟩ := h
  refine ⟨fun b hb ht => ?_, fun b hb ht => ?_, fun b ht hm => ?_⟩
  · rcases hb with ⟨hb, _⟩ | hb
    · rw [h1] at hb; cases hb
    · rcases ht with ⟨ht, _⟩ | ht
      · rcases h6 with h6 | h6
        · rw [ht] at h6; cases h6
        · have : (F i).wr = [] := by simpa using h6.1
          rw [this] at hb; cases hb
      · exact apartL_no h3 hb (List.mem_append_left _ ht)
  · rcases hb with ⟨hb, _⟩ | hb
    · rw [h2] at hb; cases hb
    · rcases ht with ⟨ht, _⟩ | ht
      · rcases h5 with h5 | h5
        · rw [ht] at h5; cases h5
        · have : (F j).wr = [] := by simpa using h5
          rw [this] at hb; cases hb
      · exact apartL_no h4 hb (List.mem_append_left _ ht)
  · unfold Made at hm
    rcases ht with ⟨ht, _⟩ | ht
    · rcases h6 with h6 | h6
      · rw [ht] at h6; cases h6
      · have : (F i).lo = (F i).hi := Nat.eq_of_beq_eq_true h6.2
        omega
    · have := List.all_eq_true.1 h7 b (List.mem_append_left _ ht)
      simp only [Bool.or_eq_true] at this
      rcases this with hh | hh
      · have := lt_of_blt hh; omega
      · have := Nat.le_of_ble_eq_true hh; omega
/-- what the kinds alone tell -/
theorem kind_foot (hf : Facts P cf os E H F) {i : Nat} {o : Oper} (ho : os[i]? = some o) :
    (kindOf o.op ≤ 2 → ∀ b, ¬ Wr H F i b) ∧ (kindOf o.op ≤ 1 → ∀ b, ¬ Tch H F i b) ∧ (kindOf o.op = 0 ∨ kindOf o.op = 2 → ∀ b, ¬ Made H i b) := by
  have hlt : i < os.size := by
    rcases Nat.lt_or_ge i os.size with h | h
    · exact h
    · rw [Array.getElem?_eq_none h] at ho; cases ho
  cases hf.s1 i o ho with
  | skip hw he hh hF =>
    refine ⟨fun _ b hb => ?_, fun _ b hb => ?_, fun _ b hb => ?_⟩
    · rw [Wr, hF] at hb; rcases hb with ⟨hb, _⟩ | hb <;> cases hb
    · rw [Tch, hF] at hb; rcases hb with ⟨hb, _⟩ | hb <;> cases hb
    · unfold Made at hb; rw [hh] at hb; omega
  | plain hw r v hst hr he hh hF =>
    rcases shape hst with ⟨hk, u, rfl⟩ | ⟨hk, u, x, rfl, hx⟩ | ⟨hk, u, rd, rfl⟩ | ⟨hk, hro⟩
    · refine ⟨fun _ b hb => ?_, fun _ b hb => ?_, fun _ b hb => ?_⟩
      · rw [Wr, hF] at hb; rcases hb with ⟨hb, _⟩ | hb <;> cases hb
      · rw [Tch, hF] at hb; rcases hb with ⟨hb, _⟩ | hb <;> cases hb
      · unfold Made at hb; rw [hh] at hb; simp only [Res.eff, Heap.eff] at hb; omega
    · refine ⟨fun _ b hb => ?_, fun _ b hb => ?_, fun hk' b hb => by omega⟩
      · rw [Wr, hF] at hb; rcases hb with ⟨hb, _⟩ | hb <;> cases hb
      · rw [Tch, hF] at hb; rcases hb with ⟨hb, _⟩ | hb <;> cases hb
    · refine ⟨fun _ b hb => ?_, fun hk' b hb => by omega, fun _ b hb => ?_⟩
      · rw [Wr, hF] at hb; rcases hb with ⟨hb, _⟩ | hb <;> cases hb
      · unfold Made at hb; rw [hh] at hb; simp only [Res.eff, Heap.eff] at hb; omega
    · exact ⟨fun hk' => by omega, fun hk' => by omega, fun hk' => by omega⟩
  | call hw g args v q hst hc he hF =>
    have hk : kindOf o.op = 3 := by
      rcases shape hst with ⟨hk, u, hh⟩ | ⟨hk, u, x, hh, hx⟩ | ⟨hk, u, rd, hh⟩ | ⟨hk, hro⟩
      · cases hh
      · cases hh
      · cases hh
      · exact hk
    exact ⟨fun hk' => by omega, fun hk' => by omega, fun hk' => by omega⟩
theorem kind_le (o : Op) : kindOf o ≤ 3 := by unfold kindOf; split <;> omega
theorem free_of_kinds (hf : Facts P cf os E H F) {i j : Nat} {x y : Oper} (hi : os[i]? = some x) (hj : os[j]? = some y) (hn : needs (kindOf x.op) (kindOf y.op) = false) : Free H F i j := by
  obtain ⟨i1, i2, i3⟩ := kind_foot hf hi
  obtain ⟨j1, j2, j3⟩ := kind_foot hf hj
  have hx := kind_le x.op
  have hy := kind_le y.op
  revert hn i1 i2 i3 j1 j2 j3 hx hy
  generalize kindOf x.op = a
  generalize kindOf y.op = b
  intro hn i1 i2 i3 j1 j2 j3 hx hy
  have hcase : (a = 0) ∨ (b = 0) ∨ (b = 1) ∨ (a = 2 ∧ b = 2) := by
    have ha : a = 0 ∨ a = 1 ∨ a = 2 ∨ a = 3 := by omega
    have hb : b = 0 ∨ b = 1 ∨ b = 2 ∨ b = 3 := by omega
    rcases ha with rfl | rfl | rfl | rfl <;> rcases hb with rfl | rfl | rfl | rfl <;> first | (cases hn; done) | omega
  refine ⟨fun c hb ht => ?_, fun c hb ht => ?_, fun c ht hm => ?_⟩
  · rcases hcase with h | h | h | h
    · exact i1 (by omega) c hb
    · exact j2 (by omega) c ht
    · exact j2 (by omega) c ht
    · exact i1 (by omega) c hb
  · rcases hcase with h | h | h | h
    · exact i2 (by omega) c ht
    · exact j1 (by omega) c hb
    · exact j1 (by omega) c hb
    · exact j1 (by omega) c hb
  · rcases hcase with h | h | h | h
    · exact i3 (by omega) c hm
    · exact j2 (by omega) c ht
    · exact j2 (by omega) c ht
    · exact i3 (by omega) c hm
end
end Go.Am
end
section
set_option linter.unusedVariables false
set_option linter.unusedSimpArgs false
set_option linter.unusedSectionVars false
namespace Go.Am
open Go.RowKit

/-- closed under what is waited for -/
def DC (os : Array Oper) (S : Nat → Bool) : Prop := ∀ (j : Nat) (o : Oper) (e : Edge), os[j]? = some o → S j = true → e ∈ o.after → Region.binds .any e = true → S e.on = true
def Cmp (os : Array Oper) (H : Nat → Heap) (F : Nat → Foot) (i j : Nat) : Prop :=
  (∀ S, DC os S → S j = true → S i = true) ∨ ∃ x y, os[i]? = some x ∧ os[j]? = some y ∧ x.apart os y = true ∧ Free H F i j
def HitE (os : Array Oper) (t k : Nat) : Prop := ∃ o, os[k]? = some o ∧ o.dst = some t
noncomputable def VE (os : Array Oper) (E : Nat → Env) (L : Nat → Bool) (t : Nat) : Value := KV (fun k => (E k).get t) (HitE os t) L os.size
noncomputable def VH (os : Array Oper) (H : Nat → Heap) (F : Nat → Foot) (L : Nat → Bool) (b : Nat) : Option Blk := KV (fun k => (H k).get b) (fun k => Hit H F k b) L os.size
def pL (os : Array Oper) (H : Nat → Heap) (L : Nat → Bool) (c : Nat) : Prop := c < (H 0).next ∨ ∃ j, j < os.size ∧ L j = true ∧ Made H j c
def plus (L : Nat → Bool) (i : Nat) : Nat → Bool := fun k => L k || Nat.beq k i
theorem plus_ne {L : Nat → Bool} {i k : Nat} (h : k ≠ i) : plus L i k = L k := by
  have : Nat.beq k i = false := by cases hh : Nat.beq k i; · rfl
                                   · exact absurd (Nat.eq_of_beq_eq_true hh) h
  simp [plus, this]
theorem plus_same {L : Nat → Bool} {i : Nat} : plus L i i = true := by simp [plus]

section
variable {P : Program} {cf : CallF} {os : Array Oper} {E : Nat → Env} {H : Nat → Heap} {F : Nat → Foot} {L : Nat → Bool} {i : Nat}
theorem KV_none {α : Type} {x : Nat → α} {hit : Nat → Prop} : ∀ {n : Nat}, KV x hit (fun _ => false) n = x 0
  | 0 => rfl
  | n + 1 => by unfold KV; rw [if_neg (fun q => by cases q.1)]; exact KV_none
theorem VE_at (hf : Facts P cf os E H F) {t : Nat} (ha : ∀ k, k < os.size → HitE os t k → L k = decide (k < i)) (hi : i ≤ os.size) : VE os E L t = (E i).get t := by
  unfold VE
  rw [KV_agree ha]
  exact KV_run (fun k hk hn => hf.same_env (get_at hk) (fun hd => hn ⟨_, get_at hk, hd⟩)) i hi
theorem VH_at (hf : Facts P cf os E H F) (hcw : CfWf cf) {b : Nat} (ha : ∀ k, k < os.size → Hit H F k b → L k = decide (k < i)) (hi : i ≤ os.size) : VH os H F L b = (H i).get b := by
  unfold VH
  rw [KV_agree ha]
  exact KV_run (fun k hk hn => hf.same_heap hcw hk hn) i hi
theorem VE_plus {t : Nat} (hn : ¬ HitE os t i) : VE os E (plus L i) t = VE os E L t := KV_agree fun k _ hk => plus_ne fun he => hn (he ▸ hk)
theorem VH_plus {b : Nat} (hn : ¬ Hit H F i b) : VH os H F (plus L i) b = VH os H F L b := KV_agree fun k _ hk => plus_ne fun he => hn (he ▸ hk)
/-- i is next -/
structure Next1 (os : Array Oper) (L : Nat → Bool) (i : Nat) : Prop where
  lt : i < os.size
  dc : DC os L
  dc' : DC os (plus L i)
  no : L i = false
def AllCmp (os : Array Oper) (H : Nat → Heap) (F : Nat → Foot) : Prop := ∀ i j, i < j → j < os.size → Cmp os H F i j
section
variable (hn : Next1 os L i) (hc : AllCmp os H F)
include hn hc
/-- another operation is done just if it comes before, or it is free of i -/
theorem other {k : Nat} (hk : k < os.size) (hne : k ≠ i) : L k = decide (k < i) ∨
    (k < i ∧ ∃ x y, os[k]? = some x ∧ os[i]? = some y ∧ x.apart os y = true ∧ Free H F k i) ∨ (i < k ∧ ∃ x y, os[i]? = some x ∧ os[k]? = some y ∧ x.apart os y = true ∧ Free H F i k) := by
  rcases Nat.lt_or_gt_of_ne hne with h | h
  · rcases hc k i h hn.lt with h1 | h1
    · have := h1 _ hn.dc' plus_same
      rw [plus_ne hne] at this
      exact .inl (by simp [this, h])
    · exact .inr (.inl ⟨h, h1⟩)
  · rcases hc i k h hk with h1 | h1
    · refine .inl ?_
      have : ¬ k < i := by omega
      simp only [this, decide_false]
      cases hh : L k
      · rfl
      · have := h1 _ hn.dc hh
        rw [hn.no] at this; cases this
    · exact .inr (.inr ⟨h, h1⟩)
theorem slot_agree {o : Oper} (ho : os[i]? = some o) {t : Nat} (ht : t ∈ o.looksAt os ∨ o.dst = some t) {k : Nat} (hk : k < os.size) (hh : HitE os t k) : L k = decide (k < i) := by
  by_cases hne : k = i
  · subst hne; simp [hn.no]
  · obtain ⟨x, hx, hd⟩ := hh
    rcases other hn hc hk hne with h | ⟨_, x', y, h1, h2, h3, _⟩ | ⟨_, x', y, h1, h2, h3, _⟩
    · exact h
    · rw [hx] at h1; cases h1
      rw [ho] at h2; cases h2
      obtain ⟨a1, a2, a3⟩ := Oper.apart_spec h3
      rcases ht with ht | ht
      · exact absurd ht (a1 t hd)
      · exact absurd ht (a2 t hd)
    · rw [hx] at h2; cases h2
      rw [ho] at h1; cases h1
      obtain ⟨a1, a2, a3⟩ := Oper.apart_spec h3
      rcases ht with ht | ht
      · exact absurd ht (a3 t hd)
      · exact absurd hd (a2 t ht)
theorem slot_agree' {o : Oper} (ho : os[i]? = some o) {t : Nat} (ht : o.dst = some t) {k : Nat} (hk : k < os.size) (hh : HitE os t k) : plus L i k = decide (k < i + 1) := by
  by_cases hne : k = i
  · subst hne; simp [plus_same]
  · rw [plus_ne hne, slot_agree hn hc ho (.inr ht) hk hh]
    have : k < i ↔ k < i + 1 := by omega
    simp [this]
theorem heap_agree (hf : Facts P cf os E H F) {b : Nat} (hb : (Tch H F i b ∧ b < (H i).next) ∨ Made H i b) {k : Nat} (hk : k < os.size) (hh : Hit H F k b) : L k = decide (k < i) := by
  by_cases hne : k = i
  · subst hne; simp [hn.no]
  · rcases other hn hc hk hne with h | ⟨hlt, x', y, _, _, _, h3⟩ | ⟨hlt, x', y, _, _, _, h3⟩
    · exact h
    · exfalso
      have hmon := hf.mono (i := k + 1) (j := i) hlt (Nat.le_of_lt hn.lt)
      rcases hh with hw | hm
      · rcases hb with ⟨hb, _⟩ | hb
        · exact h3.c1 b hw hb
        · have := (hf.wr_tch hk hw).2
          have := hf.mono (i := k) (j := k + 1) (by omega) (by omega)
          have := hb.1
          omega
      · rcases hb with ⟨hb, _⟩ | hb
        · exact h3.c3 b hb hm
        · have := hb.1; have := hm.2; omega
    · exfalso
      have hmon := hf.mono (i := i + 1) (j := k) hlt (Nat.le_of_lt hk)
      have hmon' := hf.mono (i := i) (j := i + 1) (by omega) hn.lt
      rcases hh with hw | hm
      · rcases hb with ⟨hb, _⟩ | hb
        · exact h3.c2 b hw hb
        · exact h3.c3 b (hf.wr_tch hk hw).1 hb
      · rcases hb with ⟨_, hb⟩ | hb
        · have := hm.1; omega
        · have := hb.2; have := hm.1; omega
theorem heap_agree' (hf : Facts P cf os E H F) {b : Nat} (hb : (Tch H F i b ∧ b < (H i).next) ∨ Made H i b) {k : Nat} (hk : k < os.size) (hh : Hit H F k b) : plus L i k = decide (k < i + 1) := by
  by_cases hne : k = i
  · subst hne; simp [plus_same]
  · rw [plus_ne hne, heap_agree hn hc hf hb hk hh]
    have : k < i ↔ k < i + 1 := by omega
    simp [this]
/-- what step i looks at is as in the run -/
theorem VE_now (hf : Facts P cf os E H F) {o : Oper} (ho : os[i]? = some o) {t : Nat} (ht : t ∈ o.looksAt os ∨ o.dst = some t) : VE os E L t = (E i).get t :=
  VE_at hf (fun _ hk hh => slot_agree hn hc ho ht hk hh) (Nat.le_of_lt hn.lt)
theorem VE_then (hf : Facts P cf os E H F) {o : Oper} (ho : os[i]? = some o) {t : Nat} (ht : o.dst = some t) : VE os E (plus L i) t = (E (i + 1)).get t :=
  VE_at hf (fun _ hk hh => slot_agree' hn hc ho ht hk hh) hn.lt
theorem VH_now (hf : Facts P cf os E H F) (hcw : CfWf cf) {b : Nat} (hb : (Tch H F i b ∧ b < (H i).next) ∨ Made H i b) : VH os H F L b = (H i).get b :=
  VH_at hf hcw (fun _ hk hh => heap_agree hn hc hf hb hk hh) (Nat.le_of_lt hn.lt)
theorem VH_then (hf : Facts P cf os E H F) (hcw : CfWf cf) {b : Nat} (hb : (Tch H F i b ∧ b < (H i).next) ∨ Made H i b) : VH os H F (plus L i) b = (H (i + 1)).get b :=
  VH_at hf hcw (fun _ hk hh => heap_agree' hn hc hf hb hk hh) hn.lt
theorem VE_put (hf : Facts P cf os E H F) {o : Oper} (ho : os[i]? = some o) {v : Value} (he : E (i + 1) = (E i).put o.dst v) (t : Nat) : VE os E (plus L i) t = if o.dst = some t then v else VE os E L t := by
  by_cases hd : o.dst = some t
  · rw [if_pos hd, VE_then hn hc hf ho hd, he, hd, Env.put_some, Env.get_set, if_pos rfl]
  · rw [if_neg hd]
    exact VE_plus fun ⟨x, hx, hxd⟩ => by rw [ho] at hx; cases hx; exact hd hxd
theorem pL_not_made (hf : Facts P cf os E H F) {c : Nat} (h : pL os H L c) : ¬ Made H i c := by
  intro hm
  rcases h with h | ⟨j, hj, hl, hm'⟩
  · have := hf.mono (i := 0) (j := i) (Nat.zero_le _) (Nat.le_of_lt hn.lt)
    have := hm.1; omega
  · rcases Nat.lt_or_gt_of_ne (show j ≠ i from fun he => by subst he; rw [hn.no] at hl; cases hl) with h | h
    · have := hf.mono (i := j + 1) (j := i) h (Nat.le_of_lt hn.lt)
      have := hm.1; have := hm'.2; omega
    · have := hf.mono (i := i + 1) (j := j) h (Nat.le_of_lt hj)
      have := hm.2; have := hm'.1; omega
end
theorem pL_plus {c : Nat} (hlt : i < os.size) : pL os H (plus L i) c ↔ pL os H L c ∨ Made H i c := by
  constructor
  · rintro (h | ⟨j, hj, hl, hm⟩)
    · exact .inl (.inl h)
    · by_cases hji : j = i
      · subst hji; exact .inr hm
      · rw [plus_ne hji] at hl; exact .inl (.inr ⟨j, hj, hl, hm⟩)
  · rintro ((h | ⟨j, hj, hl, hm⟩) | h)
    · exact .inl h
    · exact .inr ⟨j, hj, by simp [plus, hl], hm⟩
    · exact .inr ⟨i, hlt, plus_same, h⟩
end
end Go.Am
end
section
set_option linter.unusedVariables false
set_option linter.unusedSimpArgs false
set_option linter.unusedSectionVars false
namespace Go.Am
open Go.RowKit

theorem ev_rel_of {m : Mp} {e : Env} {a : Act} {x : Operand} (he : ∀ t, x = .tmp t → VRel m (e.get t) (a.tmps.getD t undef)) : VRel m (ev e x) (a.eval x) := by
  cases x with
  | tmp t => exact he t rfl
  | const v =>
    show VRel m (bif flat v then v else unk) v
    cases hf : flat v
    · exact .any v
    · exact .flat hf
  | global g => exact .any _
  | func f => exact .func _ _ _ _ _ rfl (fun i v v' h => by simp at h) rfl (fun i v v' h => by simp at h)
theorem ev_sc_of {p : Nat → Prop} {e : Env} {x : Operand} (he : ∀ t, x = .tmp t → Sc p (e.get t)) : Sc p (ev e x) := by
  cases x with
  | tmp t => exact he t rfl
  | const v =>
    show Sc p (bif flat v then v else unk)
    cases hf : flat v
    · exact .unk
    · exact .of_flat hf
  | global g => exact .unk
  | func f => exact .func _ _ _ (fun i v h => by simp at h) (fun i v h => by simp at h)
theorem effG_hit {G G' : Nat → Option Blk} {n b : Nat} {f : Eff} (h : b ∈ f.wr ∨ (f.isNew = true ∧ b = n)) : effG G n f b = effG G' n f b := by
  cases f with
  | non => rcases h with h | ⟨h, _⟩ <;> cases h
  | new x =>
    rcases h with h | ⟨_, rfl⟩
    · cases h
    · simp [effG]
  | set c x =>
    rcases h with h | ⟨h, _⟩
    · simp [Eff.wr] at h; subst h; simp [effG]
    · cases h
  | mv c x =>
    rcases h with h | ⟨_, rfl⟩
    · simp [Eff.wr] at h; subst h; simp [effG]
    · simp [effG]
theorem effG_miss {G : Nat → Option Blk} {n b : Nat} {f : Eff} (h1 : b ∉ f.wr) (h2 : ¬ (f.isNew = true ∧ b = n)) : effG G n f b = G b := by
  cases f with
  | non => rfl
  | new x => simp only [effG]; rw [if_neg (fun h => h2 ⟨rfl, h⟩)]
  | set c x => simp only [effG]; rw [if_neg (fun h => h1 (by simp [Eff.wr, h]))]
  | mv c x => simp only [effG]; rw [if_neg (fun h => h2 ⟨rfl, h⟩), if_neg (fun h => h1 (by simp [Eff.wr, h]))]
theorem made_eff {h : Heap} {f : Eff} {b : Nat} : (h.next ≤ b ∧ b < (h.eff f).next) ↔ (f.isNew = true ∧ b = h.next) := by
  cases f <;> simp [Heap.eff, Heap.alloc, Heap.set, Heap.kill, Eff.isNew] <;> omega

/-- the state when those of L are done -/
structure DInv (B : Nat) (w0 : World) (os : Array Oper) (E : Nat → Env) (H : Nat → Heap) (F : Nat → Foot) (m0 : Mp) (wS : World) (a0 : Act) (L : Nat → Bool) (m : Mp) (a : Act) (w : World) : Prop where
  heap : HRel B w0 m (VH os H F L) w
  env : ∀ t, t < a.tmps.size → VRel m (VE os E L t) (a.tmps.getD t undef)
  sc : ∀ t, Sc (pL os H L) (VE os E L t)
  hs : ∀ b x, VH os H F L b = some x → pL os H L b ∧ ∀ v ∈ x.cells, Sc (pL os H L) v
  evo : CEvo (· < (H 0).next) m0 m (H 0).get (VH os H F L) wS w
  size : a.tmps.size = a0.tmps.size
  defers : a.defers = a0.defers
section
variable {P : Program} {cf : CallF} {B : Nat} {w0 wS : World} {os : Array Oper} {E : Nat → Env} {H : Nat → Heap} {F : Nat → Foot} {L : Nat → Bool} {i : Nat} {m0 m : Mp} {a0 a : Act} {w : World}
theorem put_env {m m' : Mp} {a : Act} {dst : Option Tmp} {x y : Nat → Value} {p : Nat → Prop} {v v' : Value} (he : ∀ t, t < a.tmps.size → VRel m (x t) (a.tmps.getD t undef)) (hs : ∀ t, Sc p (x t)) (hm : ∀ b, p b → m' b = m b)
    (hy : ∀ t, y t = if dst = some t then v else x t) (hv : VRel m' v v') : ∀ t, t < (a.put dst v').tmps.size → VRel m' (y t) ((a.put dst v').tmps.getD t undef) := by
  intro t ht
  rw [put_size] at ht
  rw [hy]
  cases dst with
  | none => simpa [Act.put] using (he t ht).moved hm (hs t)
  | some d =>
    by_cases hd : d = t
    · subst hd
      simp [Act.put, ht, hv]
    · rw [if_neg (fun h => hd (Option.some.inj h))]
      have := (he t ht).moved hm (hs t)
      simpa [Act.put, Array.getD_eq_getD_getElem?, Array.getElem?_setIfInBounds_ne hd] using this
theorem put_sc {p q : Nat → Prop} {dst : Option Tmp} {x y : Nat → Value} {v : Value} (hs : ∀ t, Sc p (x t)) (hpq : ∀ b, p b → q b) (hy : ∀ t, y t = if dst = some t then v else x t) (hv : Sc q v) : ∀ t, Sc q (y t) := by
  intro t
  rw [hy]
  split
  · exact hv
  · exact (hs t).mono hpq
section
variable (hd : DInv B w0 os E H F m0 wS a0 L m a w) (hn : Next1 os L i) (hc : AllCmp os H F) (hf : Facts P cf os E H F) (hcw : CfWf cf)
include hd hn hc hf hcw
theorem step_skip {o : Oper} (ho : os[i]? = some o) (he : E (i + 1) = (E i).put o.dst undef) (hh : H (i + 1) = H i) (hF : F i = foot0 (H i)) : DInv B w0 os E H F m0 wS a0 (plus L i) m (a.put o.dst undef) w := by
  have nohit : ∀ b, ¬ Hit H F i b := by
    intro b hb
    rcases hb with hb | hb
    · rw [Wr, hF] at hb; rcases hb with ⟨hb, _⟩ | hb <;> cases hb
    · unfold Made at hb; rw [hh] at hb; omega
  have hp : ∀ b, pL os H L b → pL os H (plus L i) b := fun b hb => (pL_plus hn.lt).2 (.inl hb)
  have hV : VH os H F (plus L i) = VH os H F L := funext fun b => VH_plus (nohit b)
  have hE := VE_put hn hc hf ho he
  exact ⟨hV ▸ hd.heap, put_env hd.env hd.sc (fun _ _ => rfl) hE (.tuple _ _ rfl fun i v v' h => by simp at h), put_sc hd.sc hp hE .undef,
    fun b x hb => by rw [hV] at hb; obtain ⟨h1, h2⟩ := hd.hs b x hb; exact ⟨hp b h1, fun v hv => (h2 v hv).mono hp⟩, hV ▸ hd.evo, (put_size _ _ _).trans hd.size, (put_defers _ _ _).trans hd.defers⟩
theorem pre_of {o : Oper} {ns : Nat} (ho : os[i]? = some o) (hns : ns ≤ a.tmps.size) (hok : ∀ x ∈ o.op.operands, okSlot ns x = true) : Pre P o (E i) a B m (H i) w (pL os H L) := by
  have look : ∀ x ∈ o.op.operands, ∀ t, x = .tmp t → VE os E L t = (E i).get t := fun x hx t ht => VE_now hn hc hf ho (.inl (List.mem_append_left _ (List.mem_filterMap.2 ⟨.tmp t, by subst ht; simpa using hx, rfl⟩)))
  refine ⟨fun x hx => ev_rel_of fun t ht => ?_, fun x hx => ev_sc_of fun t ht => ?_, fun b x hb => ((hf.wf i (Nat.le_of_lt hn.lt)).ok b x hb).plain, hd.heap.base⟩
  · rw [← look x hx t ht]
    have := hok x hx
    subst ht
    exact hd.env t (Nat.lt_of_lt_of_le (lt_of_blt this) hns)
  · rw [← look x hx t ht]
    exact hd.sc t
theorem step_plain {o : Oper} {ns : Nat} (ho : os[i]? = some o) (hns : ns ≤ a.tmps.size) (hok : ∀ x ∈ o.op.operands, okSlot ns x = true) {r : Res} {v : Value} (hst : stepOf P o (E i) (H i) = some r)
    (hr : (∃ rd f, r = .val v rd f) ∨ (v = undef ∧ ∃ rd f, r = .unit rd f)) (he : E (i + 1) = (E i).put o.dst v) (hh : H (i + 1) = (H i).eff r.eff) (hF : F i = Foot.mk1 (H i) r.rd r.eff) :
    ∃ n w' v' m', (execOp a.eval o).run P w = .ok n w' ∧ ((n = .value v') ∨ (n = .skip ∧ v' = undef)) ∧ DInv B w0 os E H F m0 wS a0 (plus L i) m' (a.put o.dst v') w' := by
  have hpre := pre_of hd hn hc hf hcw ho hns hok
  have hwf := hf.wf i (Nat.le_of_lt hn.lt)
  have hmade : ∀ b, Made H i b ↔ (r.eff.isNew = true ∧ b = (H i).next) := fun b => by unfold Made; rw [hh]; exact made_eff
  have hnow : ∀ b x, b ∈ r.rd → (H i).get b = some x → VH os H F L b = some x := fun b x hb hx =>
    (VH_now hn hc hf hcw (.inl ⟨.inr (by rw [hF]; exact hb), hwf.lt b x hx⟩)).trans hx
  have hT : Reads B m (H i) w (pL os H L) r.rd := fun b hb x hx => ⟨hd.heap.blk b x (hnow b x hb hx), (hd.hs b x (hnow b x hb hx)).2⟩
  have hpn : r.eff.isNew = true → ¬ pL os H L (H i).next := fun h1 h2 => pL_not_made hn hc hf h2 ((hmade _).2 ⟨h1, rfl⟩)
  have hsim := sim hpre hst hT hpn
  have hok' := step_ok (p := pL os H L) hwf hpre.sc hst fun b hb x hx => (hT b hb x hx).2
  have key : ∀ {f : Eff} {v' : Value} {m' : Mp} {w' : World}, r.eff = f → EffOk (H i) (pL os H L) f → Sc (more (pL os H L) (H i) f) v → (∀ b ∈ f.wr, b ∈ r.rd) → VRel m' v v' → Done B m m' (H i) w w' f →
      DInv B w0 os E H F m0 wS a0 (plus L i) m' (a.put o.dst v') w' := by
    intro f v' m' w' hrf hef hv hwr hvr hdn
    rw [hrf] at hmade hpn
    have hlive : Live (VH os H F L) f := by
      cases f with
      | non => trivial
      | new x => trivial
      | set c x => obtain ⟨y, hy⟩ := hef.1; exact ⟨y, hnow c y (hwr c (by simp [Eff.wr])) hy⟩
      | mv c x => obtain ⟨y, hy⟩ := hef.1; exact ⟨y, hnow c y (hwr c (by simp [Eff.wr])) hy⟩
    obtain ⟨k1, k2⟩ := hd.heap.eff hd.hs hpn hlive hdn
    have hV : VH os H F (plus L i) = effG (VH os H F L) (H i).next f := by
      funext b
      by_cases hb : b ∈ f.wr ∨ (f.isNew = true ∧ b = (H i).next)
      · have hcase : (Tch H F i b ∧ b < (H i).next) ∨ Made H i b := by
          rcases hb with hb | hb
          · exact .inl (hf.wr_tch hn.lt (.inr (by rw [hF, hrf]; exact hb)))
          · exact .inr ((hmade b).2 hb)
        rw [VH_then hn hc hf hcw hcase, hh, hrf, effG_heap]
        exact effG_hit hb
      · rw [effG_miss (fun h => hb (.inl h)) (fun h => hb (.inr h))]
        refine VH_plus fun hit => hb ?_
        rcases hit with hit | hit
        · rw [Wr, hF, hrf] at hit
          rcases hit with ⟨hit, _⟩ | hit
          · cases hit
          · exact .inl hit
        · exact .inr ((hmade b).1 hit)
    have hp : ∀ b, pL os H L b → pL os H (plus L i) b := fun b hb => (pL_plus hn.lt).2 (.inl hb)
    have hp' : ∀ b, more (pL os H L) (H i) f b → pL os H (plus L i) b := by
      rintro b (hb | hb)
      · exact hp b hb
      · exact (pL_plus hn.lt).2 (.inr ((hmade b).2 hb))
    have hkeep : ∀ b, pL os H L b → m' b = m b := by
      intro b hb
      cases hnw : f.isNew
      · rw [hdn.same hnw]
      · exact hdn.keep b fun h => hpn hnw (h ▸ hb)
    have hE := VE_put hn hc hf ho he
    refine ⟨hV ▸ k1, put_env hd.env hd.sc hkeep hE hvr, put_sc hd.sc hp hE (hv.mono hp'), fun b x hb => ?_, ?_, (put_size _ _ _).trans hd.size, (put_defers _ _ _).trans hd.defers⟩
    · rw [hV] at hb
      have blk : ∀ {y : Blk}, BlkOk (pL os H L) y → ∀ v ∈ y.cells, Sc (pL os H (plus L i)) v := fun hy v hv => (hy.sc v hv).mono hp
      have old : VH os H F L b = some x → pL os H (plus L i) b ∧ ∀ v ∈ x.cells, Sc (pL os H (plus L i)) v := fun hb => ⟨hp b (hd.hs b x hb).1, fun v hv => ((hd.hs b x hb).2 v hv).mono hp⟩
      cases f with
      | non => exact old hb
      | new y =>
        simp only [effG] at hb
        split at hb
        · cases hb; exact ⟨hp' b (.inr ⟨rfl, by assumption⟩), blk hef⟩
        · exact old hb
      | set c y =>
        simp only [effG] at hb
        split at hb
        · cases hb
          obtain ⟨z, hz⟩ := hlive
          have := (hd.hs c z hz).1
          rename_i hbc
          subst hbc
          exact ⟨hp b this, blk hef.2⟩
        · exact old hb
      | mv c y =>
        simp only [effG] at hb
        split at hb
        · cases hb; exact ⟨hp' b (.inr ⟨rfl, by assumption⟩), blk hef.2⟩
        · split at hb
          · cases hb
          · exact old hb
    · rw [hV]
      exact hd.evo.trans k2 fun c hc => .inl hc
  rcases hr with ⟨rd, f, rfl⟩ | ⟨rfl, rd, f, rfl⟩
  · obtain ⟨m', v', w', h1, h2, h3⟩ := hsim
    exact ⟨_, w', v', m', h1, .inl rfl, key rfl hok'.1 hok'.2.1 hok'.2.2 h2 h3⟩
  · obtain ⟨m', w', h1, h3⟩ := hsim
    exact ⟨_, w', undef, m', h1, .inr ⟨rfl, rfl⟩, key rfl hok'.1 .undef hok'.2 (.tuple _ _ rfl fun i v v' h => by simp at h) h3⟩
end
end
end Go.Am
end
section
set_option linter.unusedVariables false
set_option linter.unusedSimpArgs false
set_option linter.unusedSectionVars false
namespace Go.Am
open Go.RowKit
section
variable {P : Program} {cf : CallF} {B : Nat} {w0 wS : World} {os : Array Oper} {E : Nat → Env} {H : Nat → Heap} {F : Nat → Foot} {L : Nat → Bool} {i : Nat} {m0 m : Mp} {a0 a : Act} {w : World} {Q : Exit → Act → World → Prop}
theorem HRel.less {G G' : Nat → Option Blk} (h : HRel B w0 m G w) (hg : ∀ b x, G' b = some x → G b = some x) : HRel B w0 m G' w :=
  ⟨h.below, h.base, fun b x hb => h.blk b x (hg b x hb), fun b b' x x' hb hb' => h.inj b b' x x' (hg b x hb) (hg b' x' hb')⟩
theorem made_by (hf : Facts P cf os E H F) : ∀ {i b : Nat}, i ≤ os.size → b < (H i).next → b < (H 0).next ∨ ∃ j, j < i ∧ Made H j b
  | 0, b, _, h => .inl h
  | i + 1, b, hi, h => by
    by_cases hlt : b < (H i).next
    · rcases made_by hf (i := i) (by omega) hlt with k | ⟨j, hj, hm⟩
      · exact .inl k
      · exact .inr ⟨j, by omega, hm⟩
    · exact .inr ⟨i, by omega, by omega, h⟩
section
variable (hd : DInv B w0 os E H F m0 wS a0 L m a w) (hn : Next1 os L i) (hc : AllCmp os H F) (hf : Facts P cf os E H F) (hcw : CfWf cf)
include hd hn hc hf hcw
theorem step_call {o : Oper} {ns : Nat} (ho : os[i]? = some o) (hns : ns ≤ a.tmps.size) (hok : ∀ x ∈ o.op.operands, okSlot ns x = true) (hcf : CfOk P cf B w0) {g : FuncId} {args : List Value} {v : Value} {q : Bool} (hst : stepOf P o (E i) (H i) = some (.enter g args))
    (hcl : cf g args (H i) = some (v, H (i + 1), q)) (he : E (i + 1) = (E i).put o.dst v) (hF : F i = ⟨true, !q, (H i).next, (H (i + 1)).next, [], []⟩) {K : Act → World → Prop}
    (hK : ∀ m' v' w', DInv B w0 os E H F m0 wS a0 (plus L i) m' (a.put o.dst v') w' → K (a.put o.dst v') w') : o.wp P a w K Q := by
  have hpre := pre_of hd hn hc hf hcw ho hns hok
  have hwf := hf.wf i (Nat.le_of_lt hn.lt)
  have hwf' := hf.wf (i + 1) hn.lt
  have hall : ∀ b, b < (H i).next → Tch H F i b := fun b hb => .inl ⟨by rw [hF], hb⟩
  have hnow : ∀ b, b < (H i).next → VH os H F L b = (H i).get b := fun b hb => VH_now hn hc hf hcw (.inl ⟨hall b hb, hb⟩)
  have hless : ∀ b x, (H i).get b = some x → VH os H F L b = some x := fun b x hb => (hnow b (hwf.lt b x hb)).trans hb
  have hsim := sim hpre hst (fun b hb => by cases hb) (fun h => by cases h)
  obtain ⟨args', h1, h2⟩ := hsim
  have hargs : ∀ v ∈ args, Sc (· < (H i).next) v := step_ok (p := (· < (H i).next)) hwf (fun x _ => ev_sc (hf.sc i (Nat.le_of_lt hn.lt)) x) hst fun b hb => by cases hb
  obtain ⟨c1, c2, c3, c4⟩ := hcw g args (H i) v (H (i + 1)) q hcl hwf hargs
  have hmadeEq : ∀ b, Made H i b ↔ ((H i).next ≤ b ∧ b < (H (i + 1)).next) := fun b => Iff.rfl
  -- what step i leaves, wherever it may have been
  have hthen : ∀ b, b < (H (i + 1)).next → VH os H F (plus L i) b = (H (i + 1)).get b := fun b hb => by
    by_cases hlt : b < (H i).next
    · exact VH_then hn hc hf hcw (.inl ⟨hall b hlt, hlt⟩)
    · exact VH_then hn hc hf hcw (.inr ⟨by omega, hb⟩)
  have hfar : ∀ b, (H (i + 1)).next ≤ b → VH os H F (plus L i) b = VH os H F L b := fun b hb => VH_plus fun hit => by
    rcases hit with hit | hit
    · have := (hf.wr_tch hn.lt hit).2
      have := c3.next
      omega
    · have := hit.2; omega
  have hsc0 : ∀ c, pL os H L c → ¬ ((H i).next ≤ c ∧ c < (H (i + 1)).next) := fun c h => pL_not_made hn hc hf h
  have hp : ∀ b, pL os H L b → pL os H (plus L i) b := fun b hb => (pL_plus hn.lt).2 (.inl hb)
  unfold Oper.wp
  rw [h1, Oper.upon_enter]
  refine (hcf g args (H i) v (H (i + 1)) q hcl m w args' hwf hargs (hd.heap.less hless) h2).mono ?_
  rintro en w' ⟨v', m1, rfl, k1, k2, k6⟩
  refine hK (fun b => if b < (H (i + 1)).next then m1 b else m b) v' w' ?_
  generalize hm' : (fun b => if b < (H (i + 1)).next then m1 b else m b) = m'
  have m1e : ∀ b, b < (H (i + 1)).next → m' b = m1 b := fun b hb => by subst hm'; simp only [if_pos hb]
  have m2e : ∀ b, ¬ ((H i).next ≤ b ∧ b < (H (i + 1)).next) → m' b = m b := fun b hb => by
    by_cases h : b < (H (i + 1)).next
    · rw [m1e b h]; exact k6.keep b (by omega)
    · subst hm'; simp only [if_neg h]
  have hkeep : ∀ b, pL os H L b → m' b = m b := fun b hb => m2e b (hsc0 b hb)
  -- where a block of the new state comes from
  have split : ∀ b x, VH os H F (plus L i) b = some x → (b < (H (i + 1)).next ∧ (H (i + 1)).get b = some x) ∨ ((H (i + 1)).next ≤ b ∧ VH os H F L b = some x) := fun b x hb => by
    rcases Nat.lt_or_ge b (H (i + 1)).next with h | h
    · exact .inl ⟨h, (hthen b h).symm.trans hb⟩
    · exact .inr ⟨h, (hfar b h).symm.trans hb⟩
  have hwB : Below B w0 w' := k2.below
  have hpB : ∀ k, k < B → w'.heap[k]? = w.heap[k]? := fun k hk => (hwB.block k hk).trans (hd.heap.below.block k hk).symm
  have nxt := c3.next
  -- all that was made before is of those that are done
  have hcov : ∀ b, b < (H (i + 1)).next → pL os H (plus L i) b := fun b hb => by
    by_cases hlt : b < (H i).next
    · refine hp b ?_
      rcases made_by hf (Nat.le_of_lt hn.lt) hlt with h | ⟨j, hj, hm⟩
      · exact .inl h
      · have hjo : j < os.size := Nat.lt_trans hj hn.lt
        rcases other hn hc hjo (Nat.ne_of_lt hj) with h | ⟨_, _, _, _, _, _, h⟩ | ⟨h, _⟩
        · exact .inr ⟨j, hjo, by simp [h, hj], hm⟩
        · exact absurd hm (h.c3 b (hall b hlt))
        · omega
    · exact (pL_plus hn.lt).2 (.inr ⟨by omega, hb⟩)
  have hE := VE_put hn hc hf ho he
  -- an own block of the new state, and an own block of the old: of one place, just if they are one
  have src : ∀ b x, (H (i + 1)).get b = some x → x.ro = false → w.heap.size ≤ (m1 b).blk ∨ ∃ c y, c < (H i).next ∧ VH os H F L c = some y ∧ y.ro = false ∧ (m1 b).blk = (m c).blk := fun b x hb hro => by
    by_cases hlt : b < (H i).next
    · obtain ⟨x0, e1, e2⟩ := k6.old b x hlt hb
      exact .inr ⟨b, x0, hlt, hless b x0 e1, e2.trans hro, by rw [k6.keep b hlt]⟩
    · rcases k6.fresh b x hb hro hlt with h | ⟨c, y, e1, e2, e3⟩
      · exact .inl h
      · exact .inr ⟨c, y, hwf.lt c y e1, hless c y e1, e2, e3⟩
  have cross : ∀ b x b' x', b < (H (i + 1)).next → (H (i + 1)).get b = some x → x.ro = false → (H (i + 1)).next ≤ b' → VH os H F L b' = some x' → x'.ro = false → (m' b).blk ≠ (m' b').blk := by
    intro b x b' x' hlt hb hro hge hb' hro' heq
    rw [m1e b hlt, m2e b' (by omega)] at heq
    have hlt' := (hd.heap.blk b' x' hb').lt
    rcases src b x hb hro with h | ⟨c, y, e0, e1, e2, e3⟩
    · omega
    · have := hd.heap.inj c b' y x' e1 hb' e2 hro' (e3.symm.trans heq)
      omega
  refine ⟨⟨hwB, k2.base, fun b x hb => ?_, fun b b' x x' hb hb' hr hr' heq => ?_⟩, put_env hd.env hd.sc hkeep hE (k1.moved m1e c2), put_sc hd.sc hp hE ?_, fun b x hb => ?_, hd.evo.trans (q := pL os H L) (m1 := m) (w1 := w) (G1 := VH os H F L) ⟨hkeep, k6.size, ?_, ?_, ?_⟩ (fun c hc => .inl hc), (put_size _ _ _).trans hd.size, (put_defers _ _ _).trans hd.defers⟩
  · rcases split b x hb with ⟨h, hb⟩ | ⟨h, hb⟩
    · exact (k2.blk b x hb).moved (p := (· < (H (i + 1)).next)) m1e (m1e b h) (hwf'.ok b x hb).sc
    · have hbr := hd.heap.blk b x hb
      have hpl := hd.hs b x hb
      refine (hbr.world (w' := w') ?_).moved hkeep (m2e b (by omega)) hpl.2
      cases hro : x.ro
      · refine k6.far _ hbr.lt fun c y hcy hyr heq => ?_
        have := hd.heap.inj c b y x (hless c y hcy) hb hyr hro heq
        have := hwf.lt c y hcy
        omega
      · exact hpB _ (hbr.ro_lt hro)
  · rcases split b x hb with ⟨h, hb⟩ | ⟨h, hb⟩ <;> rcases split b' x' hb' with ⟨h', hb'⟩ | ⟨h', hb'⟩
    · rw [m1e b h, m1e b' h'] at heq; exact k2.inj b b' x x' hb hb' hr hr' heq
    · exact absurd heq (cross b x b' x' h hb hr h' hb' hr')
    · exact absurd heq.symm (cross b' x' b x h' hb' hr' h hb hr)
    · rw [m2e b (by omega), m2e b' (by omega)] at heq; exact hd.heap.inj b b' x x' hb hb' hr hr' heq
  · exact c2.mono hcov
  · rcases split b x hb with ⟨h, hb⟩ | ⟨h, hb⟩
    · exact ⟨hcov b h, fun u hu => ((hwf'.ok b x hb).sc u hu).mono hcov⟩
    · exact ⟨hp b (hd.hs b x hb).1, fun u hu => ((hd.hs b x hb).2 u hu).mono hp⟩
  · intro k hk hne
    exact k6.far k hk fun c y hcy hyr => hne c y (hless c y hcy) hyr
  · intro b x hb hro hnp
    rcases split b x hb with ⟨h, hb⟩ | ⟨h, hb⟩
    · rcases src b x hb hro with hh | ⟨c, y, e0, e1, e2, e3⟩
      · rw [m1e b h]; exact .inl hh
      · rw [m1e b h]; exact .inr ⟨c, y, e1, e2, e3⟩
    · exact absurd (hd.hs b x hb).1 hnp
  · intro b x hpb hb
    rcases split b x hb with ⟨h, hb⟩ | ⟨h, hb⟩
    · have hlt : b < (H i).next := by have := hsc0 b hpb; omega
      obtain ⟨x0, e1, e2⟩ := k6.old b x hlt hb
      exact ⟨x0, hless b x0 e1, e2⟩
    · exact ⟨x, hb, rfl⟩
end
/-- whichever is next -/
theorem draw_step {ns : Nat} (hd : DInv B w0 os E H F m0 wS a0 L m a w) (hn : Next1 os L i) (hc : AllCmp os H F) (hf : Facts P cf os E H F) (hcw : CfWf cf) (hcf : CfOk P cf B w0) (hns : ns ≤ a.tmps.size) (hok : os.toList.all (okOper ns os.toList) = true)
    {K : Act → World → Prop} (hK : ∀ m' a' w', DInv B w0 os E H F m0 wS a0 (plus L i) m' a' w' → K a' w') : wpOp P os Q i K a w := by
  obtain ⟨o, ho⟩ : ∃ o, os[i]? = some o := ⟨_, get_at hn.lt⟩
  obtain ⟨o1, o2, o3⟩ := okOper_parts (List.all_eq_true.1 hok o (by simpa using Array.mem_of_getElem? ho))
  have hwant : ∀ b, wantedA os.toList o (E i) = some b → Region.wanted o (yielded os a.tmps) = b := fun b hw => wanted_rel (fun j want d hg hdd => by
    have hlt : d < a.tmps.size := Nat.lt_of_lt_of_le (by have o3' := o3; rw [hg] at o3'; simp only [okGuard, Array.getElem?_toList] at o3'; rw [hdd] at o3'; exact lt_of_blt o3') hns
    have := hd.env d hlt
    rw [VE_now hn hc hf ho (.inl (List.mem_append_right _ (by rw [hg]; dsimp only; rw [hdd]; simp)))] at this
    exact this) hns o3 hw
  unfold wpOp
  simp only [ho]
  cases hf.s1 i o ho with
  | skip hw he hh hF =>
    rw [hwant _ hw]
    simp only [Bool.false_eq_true, if_false]
    exact hK _ _ _ (step_skip hd hn hc hf hcw ho he hh hF)
  | plain hw r v hst hr he hh hF =>
    rw [hwant _ hw]
    simp only [if_true]
    refine .inl ?_
    obtain ⟨n, w', v', m', h1, h2, h3⟩ := step_plain hd hn hc hf hcw ho hns o2 hst hr he hh hF
    unfold Oper.wp
    rw [h1]
    rcases h2 with rfl | ⟨rfl, rfl⟩
    · rw [Oper.upon_value]; exact hK _ _ _ h3
    · rw [Oper.upon_skip]; exact hK _ _ _ h3
  | call hw g args v q hst hcl he hF =>
    rw [hwant _ hw]
    simp only [if_true]
    exact .inl (step_call hd hn hc hf hcw ho hns o2 hcf hst hcl he hF fun m' v' w' h => hK m' _ w' h)

/-! ### All of them -/
def cnt (L : Nat → Bool) : Nat → Nat
  | 0 => 0
  | k + 1 => cnt L k + if L k = true then 0 else 1
theorem cnt_plus_le {L : Nat → Bool} {i : Nat} : ∀ {n : Nat}, n ≤ i → cnt (plus L i) n = cnt L n
  | 0, _ => rfl
  | n + 1, h => by simp only [cnt]; rw [cnt_plus_le (by omega), plus_ne (by omega)]
theorem cnt_plus {L : Nat → Bool} {i : Nat} (hl : L i = false) : ∀ {n : Nat}, i < n → cnt (plus L i) n + 1 = cnt L n
  | 0, h => by omega
  | n + 1, h => by
    simp only [cnt]
    by_cases he : n = i
    · subst he
      rw [cnt_plus_le (Nat.le_refl _), plus_same, hl]; simp
    · rw [plus_ne he, ← cnt_plus hl (n := n) (by omega)]; omega
theorem cnt_zero {L : Nat → Bool} : ∀ {n : Nat}, cnt L n = 0 → ∀ k, k < n → L k = true
  | 0, _, k, hk => by omega
  | n + 1, h, k, hk => by
    simp only [cnt] at h
    by_cases he : k = n
    · subst he; cases hl : L k
      · rw [hl] at h; simp at h
      · rfl
    · exact cnt_zero (n := n) (by omega) k (by omega)
theorem cnt_le {L : Nat → Bool} : ∀ {n : Nat}, cnt L n ≤ n
  | 0 => Nat.le_refl _
  | n + 1 => by simp only [cnt]; have := cnt_le (L := L) (n := n); split <;> omega
def lOf (l : Array Bool) (k : Nat) : Bool := l.getD k false
theorem lOf_set {l : Array Bool} {i : Nat} (h : i < l.size) : lOf (l.setIfInBounds i true) = plus (lOf l) i := by
  funext k
  by_cases hk : k = i
  · subst hk; simp [lOf, plus_same, h]
  · rw [plus_ne hk]
    exact getD_set_ne false (Ne.symm hk)
theorem any_sim {ns : Nat} (hc : AllCmp os H F) (hf : Facts P cf os E H F) (hcw : CfWf cf) (hcf : CfOk P cf B w0) (hns : ns ≤ a0.tmps.size) (hok : os.toList.all (okOper ns os.toList) = true)
    (hed : ∀ (j : Nat) (o : Oper) (e : Edge), os[j]? = some o → e ∈ o.after → Region.binds .any e = true → e.on < j)
    (hQ : ∀ (L : Nat → Bool) m a w, (∀ k, k < os.size → L k = true) → DInv B w0 os E H F m0 wS a0 L m a w → Q .normal a w) :
    ∀ (fuel : Nat) (l : Array Bool) (m : Mp) (a : Act) (w : World), l.size = os.size → DC os (lOf l) → cnt (lOf l) os.size ≤ fuel → DInv B w0 os E H F m0 wS a0 (lOf l) m a w → wpAny P .any os Q fuel l a w := by
  have rdy : ∀ {l : Array Bool} {j : Nat}, l.size = os.size → (j ∈ Region.ready .any os l ↔ j < os.size ∧ lOf l j = false ∧ ∀ o e, os[j]? = some o → e ∈ o.after → Region.binds .any e = true → lOf l e.on = true) := by
    intro l j hl
    rw [mem_ready]
    constructor
    · rintro ⟨h0, o, ho, h1⟩
      have hj : j < os.size := (Array.getElem?_eq_some_iff.1 ho).1
      refine ⟨hj, ?_, fun o' e ho' he hb => ?_⟩
      · rw [← hl] at hj; simp [lOf, hj] at h0 ⊢; exact h0
      · rw [ho] at ho'; cases ho'; exact h1 e he hb
    · rintro ⟨hj, h0, h1⟩
      refine ⟨?_, os[j], get_at hj, fun e he hb => h1 _ e (get_at hj) he hb⟩
      rw [← hl] at hj; simp [lOf, hj] at h0 ⊢; exact h0
  have done : ∀ {l : Array Bool}, l.size = os.size → Region.ready .any os l = [] → ∀ n k, k < n → k < os.size → lOf l k = true := by
    intro l hl he n
    induction n with
    | zero => intro k hk; omega
    | succ n ih =>
      intro k hk hks
      cases hh : lOf l k
      · have : k ∈ Region.ready .any os l := (rdy hl).2 ⟨hks, hh, fun o e ho hm hb => ih e.on (by have := hed k o e ho hm hb; omega) (by have := hed k o e ho hm hb; omega)⟩
        rw [he] at this; cases this
      · rfl
  intro fuel
  induction fuel with
  | zero =>
    intro l m a w hl hdc hcnt hd
    have hall := cnt_zero (Nat.le_zero.1 hcnt)
    refine ⟨?_, hQ _ m a w hall hd⟩
    rw [List.eq_nil_iff_forall_not_mem]
    intro j hj
    obtain ⟨h1, h2, _⟩ := (rdy hl).1 hj
    rw [hall j h1] at h2; cases h2
  | succ fuel ih =>
    intro l m a w hl hdc hcnt hd
    refine ⟨fun he => hQ _ m a w (fun k hk => done hl he (k + 1) k (by omega) hk) hd, fun i hi => ?_⟩
    obtain ⟨h1, h2, h3⟩ := (rdy hl).1 hi
    have hdc' : DC os (plus (lOf l) i) := fun j o e ho hS he hb => by
      by_cases hj : j = i
      · subst hj; simp [plus, h3 o e ho he hb]
      · rw [plus_ne hj] at hS; simp [plus, hdc j o e ho hS he hb]
    have hset := lOf_set (l := l) (i := i) (by rw [hl]; exact h1)
    refine draw_step hd ⟨h1, hdc, hdc', h2⟩ hc hf hcw hcf (by rw [hd.size]; exact hns) hok fun m' a' w' hd' => ih _ m' a' w' (by simp [hl]) (by rw [hset]; exact hdc') ?_ (by rw [hset]; exact hd')
    rw [hset]
    have := cnt_plus h2 h1
    omega
theorem needs_cmp (hcw : CfWf cf) (hf : Facts P cf os E H F) {d : Option (List (Nat × Nat))} {fs : List Foot} (hfs : ∀ i, i < os.size → fs[i]? = some (F i)) (hdr : drawOk d fs = true) (hok : okDraw os d = true) : AllCmp os H F := by
  intro i j hij hj
  have h1 := List.all_eq_true.1 hok j (by simp [hj])
  simp only [Bool.and_eq_true] at h1
  have h2 := List.all_eq_true.1 h1.2 i (by simp [hij])
  simp only [Bool.or_eq_true] at h2
  rcases h2 with h2 | h2
  · exact .inl fun S hS hj => masks_spec (l := os.toList) (fun j o e ho => hS j o e (by simpa using ho)) hj h2
  · have hi : i < os.size := Nat.lt_trans hij hj
    unfold pairStat at h2
    rw [get_at hi, get_at hj] at h2
    simp only [Bool.and_eq_true] at h2
    refine .inr ⟨_, _, get_at hi, get_at hj, h2.1, ?_⟩
    cases d with
    | none =>
      have hq : ∀ k, k < os.size → quietFoot (F k) = true := fun k hk => List.all_eq_true.1 hdr _ (List.mem_of_getElem? (hfs k hk))
      exact free_of_pair hf hi hj (quiet_pair (hq i hi) (hq j hj))
    | some ps =>
      have h3 := h2.2
      simp only [Bool.or_eq_true, Bool.not_eq_true', List.any_eq_true, Bool.and_eq_true] at h3
      rcases h3 with h3 | ⟨p, hp, e1, e2⟩
      · exact free_of_kinds hf (get_at hi) (get_at hj) h3
      · have h4 := List.all_eq_true.1 hdr p hp
        have e1 := Nat.eq_of_beq_eq_true e1
        have e2 := Nat.eq_of_beq_eq_true e2
        rw [e1, e2, hfs i hi, hfs j hj] at h4
        exact free_of_pair hf hi hj h4
theorem edges_of (d : Option (List (Nat × Nat))) (hok : okDraw os d = true) (j : Nat) (o : Oper) (e : Edge) (ho : os[j]? = some o) (he : e ∈ o.after) (hb : Region.binds .any e = true) : e.on < j := by
  have hj : j < os.size := (Array.getElem?_eq_some_iff.1 ho).1
  have h1 := List.all_eq_true.1 hok j (by simp [hj])
  simp only [Bool.and_eq_true] at h1
  have h2 := h1.1
  unfold edgeOk at h2
  have h3 : os.getD j default = o := by simp [ho]
  rw [h3] at h2
  have h4 := List.all_eq_true.1 h2 e (by simpa using he)
  rw [hb] at h4
  exact lt_of_blt (by simpa using h4)
theorem draw_sim {id ns : Nat} {d : Option (List (Nat × Nat))} {e e' : Env} {h h' : Heap} {fs : List Foot} (hmix : P.follows .mixedOrders = true) (hcw : CfWf cf) (hcf : CfOk P cf B w0) (hr : opsF P cf os.toList os.toList e h = some (e', h', fs)) (hdr : drawOk d fs = true)
    (hok : os.toList.all (okOper ns os.toList) = true) (hod : okDraw os d = true) (hs : St B w0 m e h a w) (hns : ns ≤ a.tmps.size)
    (hQ : ∀ m' a' w', St B w0 m' e' h' a' w' → Evo m m' h h' w w' → a'.defers = a.defers → a'.tmps.size = a.tmps.size → Q .normal a' w') : (Code.region id os true).wp P Q a w := by
  obtain ⟨E, H, F, q1, q2, q3, q4, q5, q6⟩ := run_of_opsF os.toList e h e' h' fs hr
  subst q1 q2 q3 q4
  simp only [Array.length_toList] at q6 hQ
  have hf := facts_of_run hcw q5 hs.wf hs.sc
  have hcmp := needs_cmp hcw hf q6 hdr hod
  refine wp_region_any hmix ?_
  have hb1 : Below B w0 { w with drawn := w.drawn + 1 } := by
    obtain ⟨k1, k2, k3, k4, k5⟩ := hs.heap.below
    exact ⟨k1, k2, k3, k4, k5⟩
  have hHr : HRel B w0 m (H 0).get { w with drawn := w.drawn + 1 } := ⟨hb1, hs.heap.base, fun b x hb => (hs.heap.blk b x hb).world rfl, hs.heap.inj⟩
  have hev0 : CEvo (· < (H 0).next) m m (H 0).get (H 0).get w { w with drawn := w.drawn + 1 } := ⟨fun _ _ => rfl, Nat.le_refl _, fun _ _ _ => rfl, fun b x hb _ hn => absurd (hs.wf.lt b x hb) hn, fun b x _ hb => ⟨x, hb, rfl⟩⟩
  have hl0 : lOf (Array.replicate os.size false) = fun _ => false := by
    funext k
    simp only [lOf, Array.getD_eq_getD_getElem?, Array.getElem?_replicate]
    split <;> rfl
  have hV0 : VH os H F (fun _ => false) = (H 0).get := funext fun b => KV_none
  have hp0 : ∀ b, b < (H 0).next → pL os H (fun _ => false) b := fun b hb => .inl hb
  refine any_sim (m0 := m) (wS := w) (a0 := a) hcmp hf hcw hcf hns hok (edges_of d hod) ?_ os.size (Array.replicate os.size false) m a _ (by simp) (by rw [hl0]; exact fun j o e _ h => by cases h) (by rw [hl0]; exact cnt_le) ?_
  · intro L m' a' w' hall hd
    have hE : ∀ t, VE os E L t = (E os.size).get t := fun t => VE_at hf (fun k hk _ => by simp [hall k hk, hk]) (Nat.le_refl _)
    have hH : VH os H F L = (H os.size).get := funext fun b => VH_at hf hcw (fun k hk _ => by simp [hall k hk, hk]) (Nat.le_refl _)
    have hwn := hf.wf os.size (Nat.le_refl _)
    have hev := hd.evo
    rw [hH] at hev
    refine hQ m' a' w' ⟨hH ▸ hd.heap, fun t ht => hE t ▸ hd.env t ht, hwn, hf.sc os.size (Nat.le_refl _)⟩ ⟨hev, ?_⟩ hd.defers hd.size
    have evs : ∀ n, n ≤ os.size → AEvo (H 0) (H n) := by
      intro n
      induction n with
      | zero => intro _; exact AEvo.refl hs.wf
      | succ n ih => intro hn; exact (ih (by omega)).trans (hf.evo n (by omega))
    exact evs os.size (Nat.le_refl _)
  · rw [hl0]
    refine ⟨hV0 ▸ hHr, fun t ht => ?_, fun t => ?_, fun b x hb => ?_, hV0 ▸ hev0, rfl, rfl⟩
    · rw [show VE os E (fun _ => false) t = (E 0).get t from KV_none]; exact hs.env t ht
    · rw [show VE os E (fun _ => false) t = (E 0).get t from KV_none]; exact (hs.sc t).mono hp0
    · rw [hV0] at hb
      exact ⟨hp0 b (hs.wf.lt b x hb), fun v hv => ((hs.wf.ok b x hb).sc v hv).mono hp0⟩
end
end Go.Am
end
