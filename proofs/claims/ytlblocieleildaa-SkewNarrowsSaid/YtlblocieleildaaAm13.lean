/- What the abstract machine keeps of its own heap, from operation to operation. -/
import Derived.Test.YtlblocieleildaaAm12
set_option linter.unusedVariables false
set_option linter.unusedSimpArgs false
namespace Go.Am
open Go.RowKit

/-- a later heap -/
structure AEvo (h h' : Heap) : Prop where
  next : h.next ≤ h'.next
  old : ∀ b x, b < h.next → h'.get b = some x → ∃ x0, h.get b = some x0 ∧ x0.ro = x.ro
  new : ∀ b x, h.next ≤ b → h'.get b = some x → x.ro = false
  wrle : h'.wr ≤ h.wr
  wr : ∀ b, b < h'.wr → b < h.next → h'.get b = h.get b
theorem AEvo.refl {h : Heap} (hw : HWf h) : AEvo h h := ⟨Nat.le_refl _, fun b x _ hb => ⟨x, hb, rfl⟩, fun b x hn hb => absurd (hw.lt b x hb) (by omega), Nat.le_refl _, fun _ _ _ => rfl⟩
theorem AEvo.trans {h h1 h2 : Heap} (a : AEvo h h1) (b : AEvo h1 h2) : AEvo h h2 := by
  refine ⟨Nat.le_trans a.next b.next, fun c x hc hx => ?_, fun c x hn hx => ?_, Nat.le_trans b.wrle a.wrle, fun c hc hn => (b.wr c hc (Nat.lt_of_lt_of_le hn a.next)).trans (a.wr c (Nat.lt_of_lt_of_le hc b.wrle) hn)⟩
  · obtain ⟨x1, hx1, hr⟩ := b.old c x (Nat.lt_of_lt_of_le hc a.next) hx
    obtain ⟨x0, hx0, hr0⟩ := a.old c x1 hc hx1
    exact ⟨x0, hx0, hr0.trans hr⟩
  · by_cases hc : c < h1.next
    · obtain ⟨x1, hx1, hr⟩ := b.old c x hc hx
      rw [← hr]; exact a.new c x1 hn hx1
    · exact b.new c x (by omega) hx
/-- written blocks that were there stay what they are: read-only or the call's own -/
def EffRo (h : Heap) : Eff → Prop
  | .non => True
  | .new x => x.ro = false
  | .set b x => ∃ y, h.get b = some y ∧ y.ro = x.ro
  | .mv _ x => x.ro = false
theorem AEvo.eff {h : Heap} (hw : HWf h) {f : Eff} (hf : EffOk h (· < h.next) f) (hr : EffRo h f) : AEvo h (h.eff f) := by
  cases f with
  | non => exact .refl hw
  | new y =>
    refine ⟨by simp [Heap.eff, Heap.alloc], fun b x hn hb => ?_, fun b x hn hb => ?_, Nat.le_refl _, fun b _ hn => ?_⟩
    · simp only [Heap.eff] at hb
      rw [Heap.get_alloc_ne h y (by omega)] at hb
      exact ⟨x, hb, rfl⟩
    · simp only [Heap.eff] at hb
      by_cases hbn : b = h.next
      · subst hbn; rw [Heap.get_alloc_same] at hb; cases hb; exact hr
      · rw [Heap.get_alloc_ne h y hbn] at hb
        exact absurd (hw.lt b x hb) (by omega)
    · simp only [Heap.eff]
      rw [Heap.get_alloc_ne h y (by omega)]
  | set c y =>
    obtain ⟨y0, hy0, hyr⟩ := hr
    refine ⟨Nat.le_refl _, fun b x hn hb => ?_, fun b x hn hb => ?_, ?_, fun b hb hn => ?_⟩
    · simp only [Heap.eff] at hb
      by_cases hbc : c = b
      · subst hbc; rw [Heap.get_set_same] at hb; cases hb; exact ⟨y0, hy0, hyr⟩
      · rw [Heap.get_set_ne h y hbc] at hb; exact ⟨x, hb, rfl⟩
    · simp only [Heap.eff] at hb
      by_cases hbc : c = b
      · subst hbc; exact absurd (hw.lt c y0 hy0) (by omega)
      · rw [Heap.get_set_ne h y hbc] at hb
        exact absurd (hw.lt b x hb) (by omega)
    · simp only [Heap.eff, Heap.wr_set]; split <;> omega
    · simp only [Heap.eff, Heap.wr_set] at hb ⊢
      rw [Heap.get_set_ne h y (by split at hb <;> omega)]
  | mv c y =>
    refine ⟨by simp [Heap.eff, Heap.alloc, Heap.kill], fun b x hn hb => ?_, fun b x hn hb => ?_, ?_, fun b hb hn => ?_⟩
    · simp only [Heap.eff] at hb
      rw [Heap.get_alloc_ne _ y (by simp [Heap.kill]; omega)] at hb
      by_cases hbc : c = b
      · subst hbc; rw [Heap.get_kill_same] at hb; cases hb
      · rw [Heap.get_kill_ne h hbc] at hb; exact ⟨x, hb, rfl⟩
    · simp only [Heap.eff] at hb
      by_cases hbn : b = h.next
      · subst hbn
        have := Heap.get_alloc_same (h.kill c) y
        rw [show (h.kill c).next = h.next from rfl] at this
        rw [this] at hb; cases hb; exact hr
      · rw [Heap.get_alloc_ne _ y (by simpa [Heap.kill] using hbn)] at hb
        by_cases hbc : c = b
        · subst hbc; rw [Heap.get_kill_same] at hb; cases hb
        · rw [Heap.get_kill_ne h hbc] at hb
          exact absurd (hw.lt b x hb) (by omega)
    · show ((h.kill c).alloc y).wr ≤ h.wr
      rw [Heap.wr_alloc, Heap.wr_kill]; split <;> omega
    · have hb : b < ((h.kill c).alloc y).wr := hb
      rw [Heap.wr_alloc, Heap.wr_kill] at hb
      simp only [Heap.eff]
      rw [Heap.get_alloc_ne _ y (by simp [Heap.kill]; omega), Heap.get_kill_ne h (by split at hb <;> omega)]
section
variable {P : Program} {cf : CallF} {e : Env} {h : Heap} {r : Res}
theorem ro_boxV {z : Value} (hs : boxV h z = some r) : EffRo h r.eff := by
  unfold boxV at hs
  cases hp : z.cells.toList.all plainCell
  · rw [hp] at hs; cases hs
  · rw [hp] at hs; cases hs; rfl
theorem ro_asValue {n : Option Next} (hs : asValue n = some r) : EffRo h r.eff := by
  obtain ⟨v, _, hv, rfl⟩ := asValue_some hs
  trivial
theorem ro_pure {o : Oper} (hs : pureS P o e h = some r) : EffRo h r.eff := by
  unfold pureS at hs
  cases hf : o.op.operands.toList.all fun x => flat (ev e x)
  · rw [hf] at hs; cases hs
  · rw [hf] at hs; exact ro_asValue hs
/-- most operations turn nothing -/
theorem ro_storeS {t : TypeId} {x y : Operand} (hs : storeS P t x y e h = some r) : EffRo h r.eff := by
  unfold storeS at hs
  cases hn : szOf P t with
  | none => rw [hn] at hs; cases hs
  | some n =>
    rw [hn] at hs
    dsimp only at hs
    unfold storeV at hs
    split at hs
    · rename_i b o hq
      obtain ⟨x', hx', rfl⟩ := Option.map_eq_some_iff.1 hs
      obtain ⟨blk, hblk, hx'⟩ := Option.bind_eq_some_iff.1 hx'
      unfold storeB at hx'
      cases hc : !blk.ro && Nat.beq (ev e y).cells.toList.length n && Nat.ble (o + n) blk.cells.length && (ev e y).cells.toList.all plainCell
      · rw [hc] at hx'; cases hx'
      · rw [hc] at hx'; cases hx'; exact ⟨blk, hblk, rfl⟩
    · cases hs
theorem ro_appendTo {sz bytes n : Nat} {s : Value} {rd : List Nat} {cs : List Value} {fl : Bool} (hs : appendTo h sz bytes s rd cs fl n = some r) : EffRo h r.eff := by
  unfold appendTo at hs
  split at hs
  · rename_i len cap
    cases hq : Nat.beq len 0 && Nat.beq cap 0
    · rw [hq] at hs; cases hs
    · rw [hq] at hs
      cases hn : Nat.beq n 0
      · rw [hn] at hs
        cases hm : Nat.ble (n * bytes) 140737488355328
        · rw [hm] at hs; cases hs
        · rw [hm] at hs; cases hs; rfl
      · rw [hn] at hs; cases hs; trivial
  · rename_i b o len cap
    obtain ⟨blk, hblk, hs⟩ := Option.bind_eq_some_iff.1 hs
    cases hn : Nat.beq n 0
    · rw [hn] at hs
      simp only [cond_false] at hs
      cases hr : Nat.ble (len + n) cap
      · rw [hr] at hs
        simp only [cond_false] at hs
        cases hm : Nat.ble ((len + n) * bytes) 140737488355328
        · rw [hm] at hs; cases hs
        · rw [hm] at hs
          obtain ⟨old, hold, hs⟩ := Option.bind_eq_some_iff.1 hs
          split at hs
          · cases hs; rfl
          · rename_i gr _
            cases hgr : Nat.beq gr sz && !blk.ro
            · rw [hgr] at hs; cases hs
            · rw [hgr] at hs; cases hs; rfl
      · rw [hr] at hs
        simp only [cond_true] at hs
        cases hm : !blk.ro && Nat.ble (o + (len + n) * sz) blk.cells.length
        · rw [hm] at hs; cases hs
        · rw [hm] at hs; cases hs; exact ⟨blk, hblk, rfl⟩
    · rw [hn] at hs
      simp only [cond_true] at hs
      cases hm : Nat.ble len cap
      · rw [hm] at hs; cases hs
      · rw [hm] at hs; cases hs; trivial
  · cases hs
def Pure0 (r : Res) : Prop := ∃ v, r = .val v [] .non
theorem p0_asValue {n : Option Next} (hs : asValue n = some r) : Pure0 r := by
  obtain ⟨v, _, _, rfl⟩ := asValue_some hs
  exact ⟨v, rfl⟩
theorem p0_pure {o : Oper} (hs : pureS P o e h = some r) : Pure0 r := by
  unfold pureS at hs
  cases hf : o.op.operands.toList.all fun x => flat (ev e x)
  · rw [hf] at hs; cases hs
  · rw [hf] at hs; exact p0_asValue hs
theorem p0_pickS {c x y : Operand} (hs : pickS c x y e h = some r) : Pure0 r := by
  unfold pickS at hs
  split at hs
  · cases hs; exact ⟨_, rfl⟩
  · cases hs
theorem p0_nilCheckS {x : Operand} (hs : nilCheckS x e h = some r) : Pure0 r := by
  unfold nilCheckS at hs
  split at hs
  · cases hs; exact ⟨_, rfl⟩
  · cases hs; exact ⟨_, rfl⟩
  · cases hs; exact ⟨_, rfl⟩
  · cases hs
theorem p0_fieldAddrS {s : TypeId} {x : Operand} {f : Nat} (hs : fieldAddrS P s x f e h = some r) : Pure0 r := by
  unfold fieldAddrS at hs
  cases hu : P.underlying s with
  | none => rw [hu] at hs; cases hs
  | some d =>
    rw [hu] at hs
    cases d with
    | struct fields =>
      dsimp only at hs
      cases hf : fields[f]? with
      | none => rw [hf] at hs; cases hs
      | some fd =>
      rw [hf] at hs
      dsimp only at hs
      cases hn : szOf P fd.type with
      | none => rw [hn] at hs; cases hs
      | some n =>
        rw [hn] at hs
        dsimp only at hs
        cases h0 : Nat.beq n 0
        · rw [h0] at hs
          simp only [cond_false] at hs
          cases hq : asPtr (ev e x) with
          | none => rw [hq] at hs; cases hs
          | some bo => rw [hq] at hs; cases hs; exact ⟨_, rfl⟩
        · rw [h0] at hs; cases hs
    | _ => cases hs
theorem p0_indexV {sz : Nat} {k : Option Int} {s : Option (Option (Nat × Nat) × Nat × Nat)} (hs : indexV sz k s = some r) : Pure0 r := by
  obtain ⟨i, b, o, len, cap, h1, h2, h3, h4, rfl⟩ := indexV_some hs
  exact ⟨_, rfl⟩
theorem p0_indexAddrS {t : TypeId} {x i : Operand} (hs : indexAddrS P t x i e h = some r) : Pure0 r := by
  unfold indexAddrS at hs
  cases hu : P.underlying t with
  | none => rw [hu] at hs; cases hs
  | some d =>
    rw [hu] at hs
    cases d with
    | slice el =>
      dsimp only at hs
      cases hz : szOf P el with
      | none => rw [hz] at hs; cases hs
      | some sz => rw [hz] at hs; exact p0_indexV hs
    | array len el =>
      dsimp only at hs
      cases hz : szOf P el with
      | none => rw [hz] at hs; cases hs
      | some sz => rw [hz] at hs; exact p0_indexV hs
    | _ => cases hs
theorem p0_extractS {x : Operand} {i : Nat} (hs : extractS x i e h = some r) : Pure0 r := by
  unfold extractS at hs
  split at hs
  · obtain ⟨v, hv, rfl⟩ := Option.map_eq_some_iff.1 hs
    exact ⟨_, rfl⟩
  · cases hs
theorem p0_lenS {t : TypeId} {x : Operand} (hs : lenS P t x e h = some r) : Pure0 r := by
  unfold lenS at hs
  cases hu : P.underlying t with
  | none => rw [hu] at hs; cases hs
  | some d =>
    rw [hu] at hs
    cases d with
    | string =>
      dsimp only at hs
      unfold lenStr at hs
      split at hs
      · cases hs; exact ⟨_, rfl⟩
      · cases hs
    | slice el =>
      dsimp only at hs
      unfold lenV at hs
      split at hs
      · cases hs; exact ⟨_, rfl⟩
      · cases hs
    | _ => cases hs
theorem p0_binS {o : Oper} {op : BinOp} {t : TypeId} {x y : Operand} (hs : binS P o op t x y e h = some r) : Pure0 r := by
  unfold binS orElse at hs
  split at hs
  · rename_i r' hb
    cases hs
    unfold binI at hb
    split at hb
    · rename_i k i k' j h1 h2
      cases hk : decide (k = k')
      · rw [hk] at hb; cases hb
      · rw [hk] at hb
        obtain ⟨v, hv, rfl⟩ := Option.map_eq_some_iff.1 hb
        exact ⟨_, rfl⟩
    · cases hb
  · unfold binV at hs
    cases hf : flat (ev e x) && flat (ev e y)
    · rw [hf] at hs
      simp only [cond_false] at hs
      unfold nilV at hs
      split at hs
      · split at hs
        · cases hs; exact ⟨_, rfl⟩
        · cases hs; exact ⟨_, rfl⟩
        · cases hs
      · cases hs
    · rw [hf] at hs; exact p0_asValue hs
theorem p0_unS {o : Oper} {op : UnOp} {x : Operand} (hs : unS P o op x e h = some r) : Pure0 r := by
  unfold unS unV at hs
  split at hs
  · split at hs
    · cases hs; exact ⟨_, rfl⟩
    · cases hs
  · split at hs
    · cases hs; exact ⟨_, rfl⟩
    · exact p0_asValue hs
  · cases hf : flat (ev e x)
    · rw [hf] at hs; cases hs
    · rw [hf] at hs; exact p0_asValue hs
theorem p0_fieldS {s : TypeId} {x : Operand} {f : Nat} (hs : fieldS P s x f e h = some r) : Pure0 r := by
  unfold fieldS at hs
  cases hu : P.underlying s with
  | none => rw [hu] at hs; cases hs
  | some d =>
    rw [hu] at hs
    cases d with
    | struct fields =>
      dsimp only at hs
      cases hf : fields[f]? with
      | none => rw [hf] at hs; cases hs
      | some fd =>
        rw [hf] at hs
        dsimp only at hs
        cases hg : aggT P fd.type with
        | none => rw [hg] at hs; cases hs
        | some gg =>
          cases hn : szOf P fd.type with
          | none => rw [hg, hn] at hs; cases hs
          | some n =>
            rw [hg, hn] at hs
            dsimp only at hs
            unfold fieldOf at hs
            split at hs
            · obtain ⟨v, hv, rfl⟩ := Option.map_eq_some_iff.1 hs
              exact ⟨_, rfl⟩
            · cases hs
    | _ => cases hs
theorem p0_buildV {c : Option (Array Value)} (hs : buildV c = some r) : Pure0 r := by
  unfold buildV at hs
  split at hs
  · rename_i cs
    cases hpl : cs.toList.all plainCell
    · rw [hpl] at hs; cases hs
    · rw [hpl] at hs; cases hs; exact ⟨_, rfl⟩
  · cases hs
theorem p0_buildS {t : TypeId} {parts : Array (Nat × Operand)} (hs : buildS P t parts e h = some r) : Pure0 r := by
  unfold buildS at hs
  cases hu : P.underlying t with
  | none => rw [hu] at hs; cases hs
  | some d =>
    cases hz : (P.info? t).bind (·.zero) with
    | none => rw [hu, hz] at hs; cases d <;> cases hs
    | some z =>
      rw [hu, hz] at hs
      cases d with
      | struct fs =>
        dsimp only at hs
        cases hpl : places P fs with
        | none => rw [hpl] at hs; cases hs
        | some ps =>
          rw [hpl] at hs
          dsimp only at hs
          cases hf : flat z
          · rw [hf] at hs; cases hs
          · rw [hf] at hs; exact p0_buildV hs
      | array n el =>
        dsimp only at hs
        cases hn : szOf P el with
        | none => rw [hn] at hs; cases hs
        | some sz =>
          rw [hn] at hs
          dsimp only at hs
          cases hf : flat z
          · rw [hf] at hs; cases hs
          · rw [hf] at hs; exact p0_buildV hs
      | _ => cases hs
def New1 (r : Res) : Prop := ∃ v x, r = .val v [] (.new x) ∧ x.ro = false
theorem n1_boxV {z : Value} (hs : boxV h z = some r) : New1 r := by
  unfold boxV at hs
  cases hp : z.cells.toList.all plainCell
  · rw [hp] at hs; cases hs
  · rw [hp] at hs; cases hs; exact ⟨_, _, rfl, rfl⟩
theorem n1_allocS {t : TypeId} (hs : allocS P t e h = some r) : New1 r := by
  unfold allocS at hs
  cases hz : (P.info? t).bind (·.zero) with
  | none => rw [hz] at hs; cases hs
  | some z =>
    rw [hz] at hs
    dsimp only at hs
    cases hf : flat z
    · rw [hf] at hs; cases hs
    · rw [hf] at hs; exact n1_boxV hs
theorem n1_buildSliceS {t : TypeId} {n : Nat} {parts : Array (Nat × Operand)} (hs : buildSliceS P t n parts e h = some r) : New1 r := by
  unfold buildSliceS at hs
  cases hu : P.underlying t with
  | none => rw [hu] at hs; cases hs
  | some d =>
    rw [hu] at hs
    cases d with
    | slice el =>
      dsimp only at hs
      cases hi : P.info? el with
      | none => rw [hi] at hs; cases hs
      | some i =>
        rw [hi] at hs
        dsimp only at hs
        cases hz : i.zero with
        | none => rw [hz] at hs; cases hs
        | some z =>
          rw [hz] at hs
          dsimp only at hs
          cases hc : Nat.ble (n * i.size) 16777216 && flat z && !Nat.beq i.size 0 && z.cells.toList.all plainCell
          · rw [hc] at hs; cases hs
          · rw [hc] at hs
            simp only [cond_true] at hs
            unfold buildSliceV at hs
            split at hs
            · rename_i cs hcs
              cases hpl : cs.toList.all plainCell
              · rw [hpl] at hs; cases hs
              · rw [hpl] at hs; cases hs; exact ⟨_, _, rfl, rfl⟩
            · cases hs
    | _ => cases hs
def Read2 (r : Res) : Prop := ∃ v rd, r = .val v rd .non
theorem r2_loadS {t : TypeId} {x : Operand} (hs : loadS P t x e h = some r) : Read2 r := by
  unfold loadS at hs
  cases hg : aggT P t with
  | none => rw [hg] at hs; cases hs
  | some gg =>
    cases hn : szOf P t with
    | none => rw [hg, hn] at hs; cases hs
    | some n =>
      rw [hg, hn] at hs
      dsimp only at hs
      unfold loadV at hs
      split at hs
      · obtain ⟨v, hv, rfl⟩ := Option.map_eq_some_iff.1 hs
        exact ⟨_, _, rfl⟩
      · cases hs
theorem r2_sliceS {o : Oper} {t : TypeId} {x : Operand} {lo hi : Option Operand} (hs : sliceS P o t x lo hi e h = some r) : Read2 r := by
  unfold sliceS at hs
  cases hu : P.underlying t with
  | none => rw [hu] at hs; cases hs
  | some d =>
    rw [hu] at hs
    cases d with
    | string =>
      obtain ⟨v, rfl⟩ := p0_pure hs
      exact ⟨_, _, rfl⟩
    | slice el =>
      dsimp only at hs
      cases hz : szOf P el with
      | none => rw [hz] at hs; cases hs
      | some sz =>
        rw [hz] at hs
        dsimp only at hs
        unfold sliceV at hs
        split at hs
        · rename_i A n c hsl
          obtain ⟨ih, h1, hs⟩ := Option.bind_eq_some_iff.1 hs
          obtain ⟨il, h2, hs⟩ := Option.bind_eq_some_iff.1 hs
          cases hle : Nat.ble ih c
          · rw [hle] at hs; cases hs
          rw [hle] at hs
          simp only [cond_true] at hs
          cases A with
          | none => cases hs; exact ⟨_, _, rfl⟩
          | some bo =>
            obtain ⟨b, o⟩ := bo
            dsimp only at hs
            obtain ⟨ex, hg, hs⟩ := Option.bind_eq_some_iff.1 hs
            cases hic : Nat.beq il c
            · rw [hic] at hs; cases hs; exact ⟨_, _, rfl⟩
            · rw [hic] at hs
              cases ex with
              | false => cases hs
              | true => cases hs; exact ⟨_, _, rfl⟩
        · cases hs
    | _ => cases hs
theorem ro_appendS {t t' : TypeId} {s x : Operand} (hs : appendS P t t' s x e h = some r) : EffRo h r.eff := by
  unfold appendS at hs
  cases hk : P.underlying t' with
  | none => rw [hk] at hs; cases hs
  | some d' =>
  cases d' with
  | slice e' =>
    cases ht : P.underlying t with
    | none => rw [hk, ht] at hs; cases hs
    | some d =>
    cases d with
    | slice el =>
      rw [hk, ht] at hs
      dsimp only at hs
      cases hi : P.info? el with
      | none => rw [hi] at hs; cases hs
      | some i =>
        rw [hi] at hs
        dsimp only at hs
        cases hz : i.zero with
        | none => rw [hz] at hs; cases hs
        | some z =>
          rw [hz] at hs
          dsimp only at hs
          cases hc : !Nat.beq i.size 0 && !Nat.beq i.bytes 0 && Nat.beq z.cells.size i.size
          · rw [hc] at hs; cases hs
          · rw [hc] at hs
            simp only [cond_true] at hs
            unfold appendV at hs
            split at hs
            · exact ro_appendTo hs
            · cases hs
    | _ => rw [hk, ht] at hs; cases hs
  | _ => rw [hk] at hs; cases ht : P.underlying t <;> rw [ht] at hs <;> cases hs
theorem ro_callS {f : Operand} {args : Array Operand} (hs : callS P f args e h = some r) : EffRo h r.eff := by
  unfold callS at hs
  split at hs
  · rename_i gg first captured he
    cases hb : hasBody P gg
    · rw [hb] at hs; cases hs
    · rw [hb] at hs; cases hs; trivial
  · cases hs
/-- the form of what an operation yields, by its kind -/
theorem shape {o : Oper} (hs : stepOf P o e h = some r) : (kindOf o.op = 0 ∧ Pure0 r) ∨ (kindOf o.op = 1 ∧ New1 r) ∨ (kindOf o.op = 2 ∧ Read2 r) ∨ (kindOf o.op = 3 ∧ EffRo h r.eff) := by
  obtain ⟨dst, op, ty, pos, af, g⟩ := o
  cases op with
  | move x => cases hs; exact .inl ⟨rfl, _, rfl⟩
  | assign x => cases hs; exact .inl ⟨rfl, _, rfl⟩
  | pick c x y => exact .inl ⟨rfl, p0_pickS (h := h) hs⟩
  | alloc t => exact .inr (.inl ⟨rfl, n1_allocS (h := h) hs⟩)
  | box t x => exact .inr (.inl ⟨rfl, n1_boxV (h := h) hs⟩)
  | build t parts => exact .inl ⟨rfl, p0_buildS (h := h) hs⟩
  | buildSlice t n parts => exact .inr (.inl ⟨rfl, n1_buildSliceS (h := h) hs⟩)
  | load t x => exact .inr (.inr (.inl ⟨rfl, r2_loadS (h := h) hs⟩))
  | store t x y => exact .inr (.inr (.inr ⟨rfl, ro_storeS (h := h) hs⟩))
  | nilCheck x => exact .inl ⟨rfl, p0_nilCheckS (h := h) hs⟩
  | fieldAddr s x f => exact .inl ⟨rfl, p0_fieldAddrS (h := h) hs⟩
  | field s x f => exact .inl ⟨rfl, p0_fieldS (h := h) hs⟩
  | indexAddr t x i => exact .inl ⟨rfl, p0_indexAddrS (h := h) hs⟩
  | slice t x lo hi mx =>
    cases mx with
    | none => exact .inr (.inr (.inl ⟨rfl, r2_sliceS (h := h) hs⟩))
    | some _ => cases hs
  | binOp op t x y t' => exact .inl ⟨rfl, p0_binS (h := h) hs⟩
  | unOp op t x => exact .inl ⟨rfl, p0_unS (h := h) hs⟩
  | extract t i => exact .inl ⟨rfl, p0_extractS (h := h) hs⟩
  | convert s d x => exact .inl ⟨rfl, p0_pure (h := h) hs⟩
  | index t x i => exact .inl ⟨rfl, p0_pure (h := h) hs⟩
  | call c =>
    obtain ⟨callee, args, ts⟩ := c
    cases callee with
    | value f => exact .inr (.inr (.inr ⟨rfl, ro_callS (h := h) hs⟩))
    | invoke _ _ => cases hs
    | builtin b =>
      cases b with
      | len =>
        obtain ⟨l⟩ := args
        obtain ⟨k⟩ := ts
        match l, k, hs with
        | [x], [t], hs => exact .inl ⟨rfl, p0_lenS (h := h) hs⟩
        | [], _, hs => cases hs
        | _ :: _ :: _, _, hs => cases hs
        | [_], [], hs => cases hs
        | [_], _ :: _ :: _, hs => cases hs
      | append =>
        obtain ⟨l⟩ := args
        obtain ⟨k⟩ := ts
        match l, k, hs with
        | [s, x], [t, t'], hs => exact .inr (.inr (.inr ⟨rfl, ro_appendS (h := h) hs⟩))
        | [], _, hs => cases hs
        | [_], _, hs => cases hs
        | _ :: _ :: _ :: _, _, hs => cases hs
        | [_, _], [], hs => cases hs
        | [_, _], [_], hs => cases hs
        | [_, _], _ :: _ :: _ :: _, hs => cases hs
      | max => exact .inl ⟨rfl, p0_pure (h := h) hs⟩
      | min => exact .inl ⟨rfl, p0_pure (h := h) hs⟩
      | _ => cases hs
  | _ => cases hs
theorem step_ro {o : Oper} (hs : stepOf P o e h = some r) : EffRo h r.eff := by
  rcases shape hs with ⟨_, v, rfl⟩ | ⟨_, v, x, rfl, hx⟩ | ⟨_, v, rd, rfl⟩ | ⟨_, hr⟩
  · trivial
  · exact hx
  · trivial
  · exact hr
end
end Go.Am
