/- What the abstract machine keeps of its own heap. -/
import Derived.Test.YtlblocieleildaaAm10
set_option linter.unusedVariables false
set_option linter.unusedSimpArgs false
namespace Go.Am
open Go.RowKit

structure BlkOk (p : Nat → Prop) (x : Blk) : Prop where
  sc : ∀ v ∈ x.cells, Sc p v
  plain : x.cells.all plainCell = true
  fl : x.flat = true → ∀ v ∈ x.cells, flatCell v = true
theorem BlkOk.mono {p q : Nat → Prop} {x : Blk} (h : BlkOk p x) (hn : ∀ b, p b → q b) : BlkOk q x := ⟨fun v hv => (h.sc v hv).mono hn, h.plain, h.fl⟩
structure HWf (h : Heap) : Prop where
  lt : ∀ b x, h.get b = some x → b < h.next
  ok : ∀ b x, h.get b = some x → BlkOk (· < h.next) x
def EffOk (h : Heap) (p : Nat → Prop) : Eff → Prop
  | .non => True
  | .new x => BlkOk p x
  | .set b x => (∃ y, h.get b = some y) ∧ BlkOk p x
  | .mv k x => (∃ y, h.get k = some y) ∧ BlkOk p x
theorem Heap.next_eff (h : Heap) (f : Eff) : h.next ≤ (h.eff f).next := by
  cases f <;> simp [Heap.eff, Heap.alloc, Heap.set, Heap.kill]
theorem HWf.alloc {h : Heap} (hw : HWf h) {x : Blk} (hx : BlkOk (· < h.next) x) : HWf (h.alloc x) := by
  refine ⟨fun b y hy => ?_, fun b y hy => ?_⟩
  · by_cases hb : b = h.next
    · subst hb; simp [Heap.alloc]
    · rw [Heap.get_alloc_ne h x hb] at hy
      have := hw.lt b y hy
      simp [Heap.alloc]; omega
  · by_cases hb : b = h.next
    · subst hb
      rw [Heap.get_alloc_same] at hy
      cases hy
      exact hx.mono fun c hc => Nat.lt_succ_of_lt hc
    · rw [Heap.get_alloc_ne h x hb] at hy
      exact (hw.ok b y hy).mono fun c hc => Nat.lt_succ_of_lt hc
theorem HWf.set {h : Heap} (hw : HWf h) {k : Nat} {x : Blk} (hk : k < h.next) (hx : BlkOk (· < h.next) x) : HWf (h.set k x) := by
  refine ⟨fun b y hy => ?_, fun b y hy => ?_⟩
  · by_cases hb : k = b
    · subst hb; exact hk
    · rw [Heap.get_set_ne h x hb] at hy
      exact hw.lt b y hy
  · by_cases hb : k = b
    · subst hb
      rw [Heap.get_set_same] at hy
      cases hy
      exact hx
    · rw [Heap.get_set_ne h x hb] at hy
      exact hw.ok b y hy
theorem HWf.kill {h : Heap} (hw : HWf h) (k : Nat) : HWf (h.kill k) := by
  refine ⟨fun b y hy => ?_, fun b y hy => ?_⟩ <;>
    (by_cases hb : k = b
     · subst hb; rw [Heap.get_kill_same] at hy; cases hy
     · rw [Heap.get_kill_ne h hb] at hy
       first
         | exact hw.lt b y hy
         | exact hw.ok b y hy)
theorem HWf.low {h : Heap} (hw : HWf h) (n : Nat) : HWf (h.low n) := ⟨hw.lt, hw.ok⟩
theorem HWf.eff {h : Heap} (hw : HWf h) {f : Eff} (hf : EffOk h (· < h.next) f) : HWf (h.eff f) := by
  cases f with
  | non => exact hw
  | new x => exact hw.alloc hf
  | set b x => exact hw.set (hf.1.elim fun y hy => hw.lt b y hy) hf.2
  | mv k x => exact (hw.kill k).alloc hf.2

theorem Sc.asPtr {p : Nat → Prop} {b o : Nat} {v : Value} (h : Sc p v) (hp : Am.asPtr v = some (b, o)) : p b := by
  unfold Am.asPtr at hp
  split at hp
  · cases hp
    cases h with
    | flat _ h => cases h
    | ptr _ _ h => exact h
  · cases hp
theorem Sc.sl_lt {p : Nat → Prop} {b o l c : Nat} (h : Sc p (.slice (some ⟨b, o, none⟩) l c)) : p b := by
  cases h with
  | flat _ h => cases h
  | sl _ _ _ _ h => exact h
theorem Sc.asSl {p : Nat → Prop} {b o l c : Nat} {v : Value} (h : Sc p v) (hp : Am.asSl v = some (some (b, o), l, c)) : p b := by
  have := asSl_val hp
  subst this
  exact h.sl_lt
section
variable {P : Program} {dst : Option Tmp} {ty : TypeId} {pos : String} {af : Array Edge} {g : Option (Nat × Bool)} {e : Env} {h : Heap} {r : Res} {n : Nat} {p : Nat → Prop}
/-- what a result may refer to -/
def more (p : Nat → Prop) (h : Heap) (f : Eff) : Nat → Prop := fun b => p b ∨ (f.isNew = true ∧ b = h.next)
def ResOk (h : Heap) (p : Nat → Prop) : Res → Prop
  | .val v rd f => EffOk h p f ∧ Sc (more p h f) v ∧ (∀ b ∈ f.wr, b ∈ rd)
  | .unit rd f => EffOk h p f ∧ (∀ b ∈ f.wr, b ∈ rd)
  | .enter _ args => ∀ v ∈ args, Sc p v
theorem ResOk.still {v : Value} {rd : List Nat} (hv : Sc p v) : ResOk h p (.val v rd .non) := ⟨trivial, hv.mono fun _ hb => .inl hb, fun b hb => by cases hb⟩
def RdOk (h : Heap) (p : Nat → Prop) (l : List Nat) : Prop := ∀ b ∈ l, ∀ x, h.get b = some x → ∀ v ∈ x.cells, Sc p v
theorem RdOk.blk {l : List Nat} (hr : RdOk h p l) (hw : HWf h) {b : Nat} {x : Blk} (hb : b ∈ l) (hx : h.get b = some x) : BlkOk p x := ⟨hr b hb x hx, (hw.ok b x hx).plain, (hw.ok b x hx).fl⟩
theorem ok_asValue {n : Option Next} (hs : asValue n = some r) : ResOk h p r := by
  obtain ⟨v, _, hv, rfl⟩ := asValue_some hs
  exact .still (Sc.of_flat hv)
theorem ok_pure {o : Oper} (hs : pureS P o e h = some r) : ResOk h p r := by
  unfold pureS at hs
  cases hf : o.op.operands.toList.all fun x => flat (ev e x)
  · rw [hf] at hs; cases hs
  · rw [hf] at hs; exact ok_asValue hs
theorem ok_boxV {z : Value} (hz : Sc p z) (hs : boxV h z = some r) : ResOk h p r := by
  unfold boxV at hs
  cases hp : z.cells.toList.all plainCell
  · rw [hp] at hs; cases hs
  · rw [hp] at hs
    cases hs
    exact ⟨⟨hz.cells, hp, fun hf => flat_cells hf hp⟩, .ptr _ _ (.inr ⟨rfl, rfl⟩), fun b hb => by cases hb⟩
theorem ok_indexV {sz : Nat} {k : Option Int} {s : Option (Option (Nat × Nat) × Nat × Nat)} (hb : ∀ b o l c, s = some (some (b, o), l, c) → p b) (hs : indexV sz k s = some r) : ResOk h p r := by
  obtain ⟨i, b, o, len, cap, h1, h2, h3, h4, rfl⟩ := indexV_some hs
  exact .still (.ptr _ _ (hb _ _ _ _ h2))
theorem ok_parts {parts : Array (Nat × Operand)} (hsc : ∀ x ∈ (parts.toList.map (·.2)), Sc p (ev e x)) : ∀ q0 ∈ evParts e parts, ∀ v ∈ q0.2.cells.toList, Sc p v := by
  intro q0 hp
  simp only [evParts, List.mem_map] at hp
  obtain ⟨q, hq, rfl⟩ := hp
  exact (hsc q.2 (List.mem_map.2 ⟨q, hq, rfl⟩)).cells
theorem ok_buildV {place : Nat → Option (Nat × Nat)} {z : Value} {parts : Array (Nat × Operand)} (hsc : ∀ x ∈ (parts.toList.map (·.2)), Sc p (ev e x)) (hz : flat z = true) (hs : buildV (fillA place z.cells (evParts e parts)) = some r) : ResOk h p r := by
  unfold buildV at hs
  split at hs
  · rename_i cs hcs
    cases hpl : cs.toList.all plainCell
    · rw [hpl] at hs; cases hs
    · rw [hpl] at hs
      cases hs
      obtain ⟨h1, h2⟩ := fillA_some hcs
      exact .still (.mk_agg (fill_all _ _ _ (ok_parts hsc) (Sc.of_flat hz).cells h2))
  · cases hs
theorem ok_buildS {t : TypeId} {parts : Array (Nat × Operand)} (hsc : ∀ x ∈ (parts.toList.map (·.2)), Sc p (ev e x)) (hs : buildS P t parts e h = some r) : ResOk h p r := by
  unfold buildS at hs
  cases hu : P.underlying t with
  | none => rw [hu] at hs; cases hs
  | some d =>
    cases hz : (P.info? t).bind (·.zero) with
    | none => rw [hu, hz] at hs; cases d <;> cases hs
    | some z =>
      rw [hu, hz] at hs
      cases d with
      | struct fs =>
        dsimp only at hs
        cases hpl : places P fs with
        | none => rw [hpl] at hs; cases hs
        | some ps =>
          rw [hpl] at hs
          dsimp only at hs
          cases hf : flat z
          · rw [hf] at hs; cases hs
          · rw [hf] at hs; exact ok_buildV hsc hf hs
      | array n el =>
        dsimp only at hs
        cases hn : szOf P el with
        | none => rw [hn] at hs; cases hs
        | some sz =>
          rw [hn] at hs
          dsimp only at hs
          cases hf : flat z
          · rw [hf] at hs; cases hs
          · rw [hf] at hs; exact ok_buildV hsc hf hs
      | _ => cases hs
theorem fill_flat {place : Nat → Option (Nat × Nat)} {cs r : Array Value} {ps : List (Nat × Value)} (hp : ∀ p ∈ ps, flat p.2 = true) (hpl : ∀ p ∈ ps, p.2.cells.toList.all plainCell = true) (hc : ∀ v ∈ cs.toList, flatCell v = true) (hf : Instr.fill place cs ps = some r) : ∀ v ∈ r.toList, flatCell v = true :=
  fill_all ps cs r (fun q hq => flat_cells (hp q hq) (hpl q hq)) hc hf
theorem ok_buildSliceS {t : TypeId} {n : Nat} {parts : Array (Nat × Operand)} (hsc : ∀ x ∈ (parts.toList.map (·.2)), Sc p (ev e x)) (hs : buildSliceS P t n parts e h = some r) : ResOk h p r := by
  unfold buildSliceS at hs
  cases hu : P.underlying t with
  | none => rw [hu] at hs; cases hs
  | some d =>
    rw [hu] at hs
    cases d with
    | slice el =>
      dsimp only at hs
      cases hi : P.info? el with
      | none => rw [hi] at hs; cases hs
      | some i =>
        rw [hi] at hs
        dsimp only at hs
        cases hz : i.zero with
        | none => rw [hz] at hs; cases hs
        | some z =>
          rw [hz] at hs
          dsimp only at hs
          cases hc : Nat.ble (n * i.size) 16777216 && flat z && !Nat.beq i.size 0 && z.cells.toList.all plainCell
          · rw [hc] at hs; cases hs
          · rw [hc] at hs
            simp only [Bool.and_eq_true, Bool.not_eq_true'] at hc
            obtain ⟨⟨⟨c1, c2⟩, c3⟩, c4⟩ := hc
            simp only [cond_true] at hs
            unfold buildSliceV at hs
            split at hs
            · rename_i cs hcs
              cases hpl : cs.toList.all plainCell
              · rw [hpl] at hs; cases hs
              · rw [hpl] at hs
                cases hs
                obtain ⟨h1, h2⟩ := fillA_some hcs
                have hz0 : ∀ v ∈ (zeros z.cells (n * i.size)).toList, v ∈ z.cells.toList ∨ v = default := by
                  intro v hv
                  simp [zeros] at hv
                  obtain ⟨k, hk, rfl⟩ := hv
                  by_cases hzs : k % z.cells.size < z.cells.size
                  · rw [getElem!_pos z.cells _ hzs]; exact .inl (by simp)
                  · rw [getElem!_neg z.cells _ hzs]; exact .inr rfl
                refine ⟨⟨fill_all _ _ _ (ok_parts hsc) (fun v hv => ?_) h2, hpl, fun hf => ?_⟩, .sl _ _ _ _ (.inr ⟨rfl, rfl⟩), fun b hb => by cases hb⟩
                · rcases hz0 v hv with hv | rfl
                  · exact (Sc.of_flat c2).cells v hv
                  · exact .flat _ rfl
                · refine fill_flat (fun p hp => List.all_eq_true.1 hf p hp) h1 (fun v hv => ?_) h2
                  rcases hz0 v hv with hv | rfl
                  · exact flat_cells c2 c4 v hv
                  · rfl
            · cases hs
    | _ => cases hs
theorem ok_cut {l cs : List Value} {o k : Nat} {c : Value → Prop} (hl : ∀ v ∈ l, c v) (hc : cut l o k = some cs) : ∀ v ∈ cs, c v := by
  obtain ⟨_, rfl⟩ := cut_some hc
  exact fun v hv => hl v (List.mem_of_mem_drop (List.mem_of_mem_take hv))
theorem ok_cellAt {gg : Bool} {n o : Nat} {x : Blk} {v : Value} (hx : BlkOk p x) (hv : cellAt gg n o x = some v) : Sc p v := by
  unfold cellAt at hv
  cases gg with
  | true =>
    simp only [cond_true] at hv
    obtain ⟨cs, hc, rfl⟩ := Option.map_eq_some_iff.1 hv
    exact .mk_agg (by simpa using ok_cut hx.sc hc)
  | false => exact hx.sc v (List.mem_of_getElem? hv)
theorem ok_loadS {t : TypeId} {x : Operand} (hw : HWf h) (hs : loadS P t x e h = some r) (hR : RdOk h p r.rd) : ResOk h p r := by
  unfold loadS at hs
  cases hg : aggT P t with
  | none => rw [hg] at hs; cases hs
  | some gg =>
    cases hn : szOf P t with
    | none => rw [hg, hn] at hs; cases hs
    | some n =>
      rw [hg, hn] at hs
      dsimp only at hs
      unfold loadV at hs
      split at hs
      · obtain ⟨v, hv, rfl⟩ := Option.map_eq_some_iff.1 hs
        obtain ⟨blk, hblk, hv⟩ := Option.bind_eq_some_iff.1 hv
        exact .still (ok_cellAt (hR.blk hw (by simp [Res.rd]) hblk) hv)
      · cases hs
theorem ok_putAll {l vs : List Value} {o : Nat} {c : Value → Prop} (hl : ∀ v ∈ l, c v) (hv : ∀ v ∈ vs, c v) : ∀ v ∈ putAll l o vs, c v := by
  intro v h
  unfold putAll at h
  rcases List.mem_append.1 h with h | h
  · rcases List.mem_append.1 h with h | h
    · exact hl v (List.mem_of_mem_take h)
    · exact hv v h
  · exact hl v (List.mem_of_mem_drop h)
theorem ok_storeS {t : TypeId} {x y : Operand} (hw : HWf h) (hy : Sc p (ev e y)) (hs : storeS P t x y e h = some r) (hR : RdOk h p r.rd) : ResOk h p r := by
  unfold storeS at hs
  cases hn : szOf P t with
  | none => rw [hn] at hs; cases hs
  | some n =>
    rw [hn] at hs
    dsimp only at hs
    unfold storeV at hs
    split at hs
    · rename_i b o hq
      obtain ⟨x', hx', rfl⟩ := Option.map_eq_some_iff.1 hs
      obtain ⟨blk, hblk, hx'⟩ := Option.bind_eq_some_iff.1 hx'
      have hb := hR.blk hw (b := b) (by simp [Res.rd]) hblk
      unfold storeB at hx'
      cases hc : !blk.ro && Nat.beq (ev e y).cells.toList.length n && Nat.ble (o + n) blk.cells.length && (ev e y).cells.toList.all plainCell
      · rw [hc] at hx'; cases hx'
      · rw [hc] at hx'
        cases hx'
        simp only [Bool.and_eq_true, Bool.not_eq_true'] at hc
        refine ⟨⟨⟨_, hblk⟩, ok_putAll hb.sc hy.cells, ?_, fun hf => ?_⟩, fun b hb => by simpa [Eff.wr] using hb⟩
        · exact List.all_eq_true.2 (ok_putAll (c := fun v => plainCell v = true) (List.all_eq_true.1 hb.plain) (List.all_eq_true.1 hc.2))
        · rw [Bool.and_eq_true] at hf
          exact ok_putAll (hb.fl hf.1) (flat_cells hf.2 hc.2)
    · cases hs
theorem ok_cellsOf {sz n : Nat} {x : Value} {rd : List Nat} {cs : List Value} {fl : Bool} (hw : HWf h) (hc : cellsOf h sz x = some (rd, cs, fl, n)) (hR : RdOk h p rd) : BlkOk p ⟨cs, fl, false, none⟩ := by
  unfold cellsOf at hc
  split at hc
  · rename_i n' c
    cases h0 : Nat.beq n' 0
    · rw [h0] at hc; cases hc
    · rw [h0] at hc
      cases hc
      exact ⟨fun v hv => (by cases hv), rfl, fun _ v hv => (by cases hv)⟩
  · rename_i b o n' c
    obtain ⟨blk, hblk, hc⟩ := Option.bind_eq_some_iff.1 hc
    obtain ⟨cs1, hcs, hc⟩ := Option.map_eq_some_iff.1 hc
    cases hc
    have hb := hR.blk hw (b := b) (by simp) hblk
    exact ⟨ok_cut hb.sc hcs, List.all_eq_true.2 (ok_cut (c := fun v => plainCell v = true) (List.all_eq_true.1 hb.plain) hcs), fun hf => ok_cut (hb.fl hf) hcs⟩
  · cases hc
theorem BlkOk.append {cs cs' : List Value} {fl fl' ro ro' : Bool} {gr gr' gr'' : Option Nat} (h : BlkOk p ⟨cs, fl, ro, gr⟩) (h' : BlkOk p ⟨cs', fl', ro', gr'⟩) : BlkOk p ⟨cs ++ cs', fl && fl', false, gr''⟩ := by
  refine ⟨fun v hv => ?_, ?_, fun hf v hv => ?_⟩
  · rcases List.mem_append.1 hv with hv | hv
    · exact h.sc v hv
    · exact h'.sc v hv
  · show (cs ++ cs').all plainCell = true
    rw [List.all_append, h.plain, h'.plain]; rfl
  · have hf : (fl && fl') = true := hf
    rw [Bool.and_eq_true] at hf
    rcases List.mem_append.1 hv with hv | hv
    · exact h.fl hf.1 v hv
    · exact h'.fl hf.2 v hv
theorem ok_appendTo {sz bytes n : Nat} {s : Value} {rd : List Nat} {cs : List Value} {fl : Bool} (hw : HWf h) (hsc : Sc p s) (hx : BlkOk p ⟨cs, fl, false, none⟩) (hs : appendTo h sz bytes s rd cs fl n = some r) (hR : RdOk h p r.rd) : ResOk h p r := by
  unfold appendTo at hs
  split at hs
  · rename_i len cap
    cases hq : Nat.beq len 0 && Nat.beq cap 0
    · rw [hq] at hs; cases hs
    · rw [hq] at hs
      cases hn : Nat.beq n 0
      · rw [hn] at hs
        cases hm : Nat.ble (n * bytes) 140737488355328
        · rw [hm] at hs; cases hs
        · rw [hm] at hs
          cases hs
          exact ⟨⟨hx.sc, hx.plain, hx.fl⟩, .sl _ _ _ _ (.inr ⟨rfl, rfl⟩), fun b hb => by cases hb⟩
      · rw [hn] at hs; cases hs; exact .still hsc
  · rename_i b o len cap
    obtain ⟨blk, hblk, hs⟩ := Option.bind_eq_some_iff.1 hs
    have hb0 : b ∈ r.rd → BlkOk p blk := fun hb => hR.blk hw hb hblk
    cases hn : Nat.beq n 0
    · rw [hn] at hs
      simp only [cond_false] at hs
      cases hr : Nat.ble (len + n) cap
      · rw [hr] at hs
        simp only [cond_false] at hs
        cases hm : Nat.ble ((len + n) * bytes) 140737488355328
        · rw [hm] at hs; cases hs
        · rw [hm] at hs
          obtain ⟨old, hold, hs⟩ := Option.bind_eq_some_iff.1 hs
          have hin : b ∈ r.rd := by
            split at hs
            · cases hs; simp [Res.rd]
            · rename_i gr _
              cases hgr : Nat.beq gr sz && !blk.ro
              · rw [hgr] at hs; cases hs
              · rw [hgr] at hs; cases hs; simp [Res.rd]
          have hb := hb0 hin
          have ho : BlkOk p ⟨old, blk.flat, false, none⟩ := ⟨ok_cut hb.sc hold, List.all_eq_true.2 (ok_cut (c := fun v => plainCell v = true) (List.all_eq_true.1 hb.plain) hold), fun hf => ok_cut (hb.fl hf) hold⟩
          split at hs
          · cases hs
            exact ⟨ho.append hx, .sl _ _ _ _ (.inr ⟨rfl, rfl⟩), fun b hb => by cases hb⟩
          · rename_i gr _
            cases hgr : Nat.beq gr sz && !blk.ro
            · rw [hgr] at hs; cases hs
            · rw [hgr] at hs
              cases hs
              exact ⟨⟨⟨_, hblk⟩, ho.append hx⟩, .sl _ _ _ _ (.inr ⟨rfl, rfl⟩), fun b hb => by simp [Eff.wr] at hb; subst hb; simp⟩
      · rw [hr] at hs
        simp only [cond_true] at hs
        cases hm : !blk.ro && Nat.ble (o + (len + n) * sz) blk.cells.length
        · rw [hm] at hs; cases hs
        · rw [hm] at hs
          cases hs
          have hb := hb0 (by simp [Res.rd])
          refine ⟨⟨⟨_, hblk⟩, ok_putAll hb.sc hx.sc, ?_, fun hf => ?_⟩, .sl _ _ _ _ (.inl hsc.sl_lt), fun b hb => by simp [Eff.wr] at hb; subst hb; simp⟩
          · exact List.all_eq_true.2 (ok_putAll (c := fun v => plainCell v = true) (List.all_eq_true.1 hb.plain) (List.all_eq_true.1 hx.plain))
          · have hf : (blk.flat && fl) = true := hf
            rw [Bool.and_eq_true] at hf
            exact ok_putAll (hb.fl hf.1) (hx.fl hf.2)
    · rw [hn] at hs
      simp only [cond_true] at hs
      cases hm : Nat.ble len cap
      · rw [hm] at hs; cases hs
      · rw [hm] at hs; cases hs; exact .still hsc
  · cases hs
theorem ok_appendS {t t' : TypeId} {s x : Operand} (hw : HWf h) (hsc : Sc p (ev e s)) (hs : appendS P t t' s x e h = some r) (hR : RdOk h p r.rd) : ResOk h p r := by
  unfold appendS at hs
  cases hk : P.underlying t' with
  | none => rw [hk] at hs; cases hs
  | some d' =>
  cases d' with
  | slice e' =>
    cases ht : P.underlying t with
    | none => rw [hk, ht] at hs; cases hs
    | some d =>
    cases d with
    | slice el =>
      rw [hk, ht] at hs
      dsimp only at hs
      cases hi : P.info? el with
      | none => rw [hi] at hs; cases hs
      | some i =>
        rw [hi] at hs
        dsimp only at hs
        cases hz : i.zero with
        | none => rw [hz] at hs; cases hs
        | some z =>
          rw [hz] at hs
          dsimp only at hs
          cases hc : !Nat.beq i.size 0 && !Nat.beq i.bytes 0 && Nat.beq z.cells.size i.size
          · rw [hc] at hs; cases hs
          · rw [hc] at hs
            simp only [cond_true] at hs
            unfold appendV at hs
            split at hs
            · rename_i rd cs fl n hcs
              exact ok_appendTo hw hsc (ok_cellsOf hw hcs fun b hb => hR b (appendTo_rd hs b hb)) hs hR
            · cases hs
    | _ => rw [hk, ht] at hs; cases hs
  | _ => rw [hk] at hs; cases ht : P.underlying t <;> rw [ht] at hs <;> cases hs
theorem ok_pickS {c x y : Operand} (hx : Sc p (ev e x)) (hy : Sc p (ev e y)) (hs : pickS c x y e h = some r) : ResOk h p r := by
  unfold pickS at hs
  split at hs
  · rename_i t _
    cases hs
    exact .still (by cases t <;> assumption)
  · cases hs
theorem ok_nilCheckS {x : Operand} (hx : Sc p (ev e x)) (hs : nilCheckS x e h = some r) : ResOk h p r := by
  unfold nilCheckS at hs
  split at hs
  · rename_i he; cases hs; rw [he] at hx; exact .still hx
  · rename_i he; cases hs; rw [he] at hx; exact .still hx
  · rename_i he; cases hs; rw [he] at hx; exact .still hx
  · cases hs
theorem ok_fieldAddrS {s : TypeId} {x : Operand} {f : Nat} (hx : Sc p (ev e x)) (hs : fieldAddrS P s x f e h = some r) : ResOk h p r := by
  unfold fieldAddrS at hs
  cases hu : P.underlying s with
  | none => rw [hu] at hs; cases hs
  | some d =>
    rw [hu] at hs
    cases d with
    | struct fields =>
      dsimp only at hs
      cases hf : fields[f]? with
      | none => rw [hf] at hs; cases hs
      | some fd =>
      rw [hf] at hs
      dsimp only at hs
      cases hn : szOf P fd.type with
      | none => rw [hn] at hs; cases hs
      | some n =>
        rw [hn] at hs
        dsimp only at hs
        cases h0 : Nat.beq n 0
        · rw [h0] at hs
          simp only [cond_false] at hs
          cases hq : asPtr (ev e x) with
          | none => rw [hq] at hs; cases hs
          | some bo =>
            rw [hq] at hs
            cases hs
            exact .still (.ptr _ _ (hx.asPtr hq))
        · rw [h0] at hs; cases hs
    | _ => cases hs
theorem ok_indexAddrS {t : TypeId} {x i : Operand} (hx : Sc p (ev e x)) (hs : indexAddrS P t x i e h = some r) : ResOk h p r := by
  unfold indexAddrS at hs
  cases hu : P.underlying t with
  | none => rw [hu] at hs; cases hs
  | some d =>
    rw [hu] at hs
    cases d with
    | slice el =>
      dsimp only at hs
      cases hz : szOf P el with
      | none => rw [hz] at hs; cases hs
      | some sz => rw [hz] at hs; exact ok_indexV (fun b o l c hq => hx.asSl hq) hs
    | array len el =>
      dsimp only at hs
      cases hz : szOf P el with
      | none => rw [hz] at hs; cases hs
      | some sz =>
        rw [hz] at hs
        refine ok_indexV (fun b o l c hq => ?_) hs
        obtain ⟨p, hp1, hp2⟩ := Option.map_eq_some_iff.1 hq
        cases hp2
        exact hx.asPtr hp1
    | _ => cases hs
theorem ok_extractS {x : Operand} {i : Nat} (hx : Sc p (ev e x)) (hs : extractS x i e h = some r) : ResOk h p r := by
  unfold extractS at hs
  split at hs
  · rename_i vs he
    obtain ⟨v, hv, rfl⟩ := Option.map_eq_some_iff.1 hs
    rw [he] at hx
    cases hx with
    | flat _ hh => cases hh
    | tuple _ hh => exact .still (hh i v hv)
  · cases hs
theorem ok_lenS {t : TypeId} {x : Operand} (hs : lenS P t x e h = some r) : ResOk h p r := by
  unfold lenS at hs
  cases hu : P.underlying t with
  | none => rw [hu] at hs; cases hs
  | some d =>
    rw [hu] at hs
    cases d with
    | string =>
      dsimp only at hs
      unfold lenStr at hs
      split at hs
      · cases hs; exact .still (.flat _ rfl)
      · cases hs
    | slice el =>
      dsimp only at hs
      unfold lenV at hs
      split at hs
      · cases hs; exact .still (.flat _ rfl)
      · cases hs
    | _ => cases hs
theorem ok_binS {o : Oper} {op : BinOp} {t : TypeId} {x y : Operand} (hs : binS P o op t x y e h = some r) : ResOk h p r := by
  unfold binS orElse at hs
  split at hs
  · rename_i r' hb
    cases hs
    unfold binI at hb
    split at hb
    · rename_i k i k' j h1 h2
      cases hk : decide (k = k')
      · rw [hk] at hb; cases hb
      · rw [hk] at hb
        obtain ⟨v, hv, rfl⟩ := Option.map_eq_some_iff.1 hb
        exact .still (Sc.of_flat (abin_flat hv))
    · cases hb
  · unfold binV at hs
    cases hf : flat (ev e x) && flat (ev e y)
    · rw [hf] at hs
      simp only [cond_false] at hs
      unfold nilV at hs
      split at hs
      · split at hs
        · cases hs; exact .still (.flat _ rfl)
        · cases hs; exact .still (.flat _ rfl)
        · cases hs
      · cases hs
    · rw [hf] at hs; exact ok_asValue hs
theorem ok_unS {o : Oper} {op : UnOp} {x : Operand} (hs : unS P o op x e h = some r) : ResOk h p r := by
  unfold unS unV at hs
  split at hs
  · split at hs
    · cases hs; exact .still (.flat _ rfl)
    · cases hs
  · split at hs
    · cases hs; exact .still (.flat _ rfl)
    · exact ok_asValue hs
  · cases hf : flat (ev e x)
    · rw [hf] at hs; cases hs
    · rw [hf] at hs; exact ok_asValue hs
theorem ok_fieldS {s : TypeId} {x : Operand} {f : Nat} (hx : Sc p (ev e x)) (hs : fieldS P s x f e h = some r) : ResOk h p r := by
  unfold fieldS at hs
  cases hu : P.underlying s with
  | none => rw [hu] at hs; cases hs
  | some d =>
    rw [hu] at hs
    cases d with
    | struct fields =>
      dsimp only at hs
      cases hf : fields[f]? with
      | none => rw [hf] at hs; cases hs
      | some fd =>
        rw [hf] at hs
        dsimp only at hs
        cases hg : aggT P fd.type with
        | none => rw [hg] at hs; cases hs
        | some gg =>
          cases hn : szOf P fd.type with
          | none => rw [hg, hn] at hs; cases hs
          | some n =>
            rw [hg, hn] at hs
            dsimp only at hs
            unfold fieldOf at hs
            split at hs
            · rename_i cs he
              rw [he] at hx
              obtain ⟨v, hv, rfl⟩ := Option.map_eq_some_iff.1 hs
              cases gg with
              | true =>
                simp only [cond_true] at hv
                obtain ⟨l, hl1, rfl⟩ := Option.map_eq_some_iff.1 hv
                exact .still (.mk_agg (by simpa using ok_cut hx.of_agg hl1))
              | false => exact .still (hx.of_agg v (mem_at hv))
            · cases hs
    | _ => cases hs
theorem ok_sliceS {o : Oper} {t : TypeId} {x : Operand} {lo hi : Option Operand} (hx : Sc p (ev e x)) (hs : sliceS P o t x lo hi e h = some r) : ResOk h p r := by
  unfold sliceS at hs
  cases hu : P.underlying t with
  | none => rw [hu] at hs; cases hs
  | some d =>
    rw [hu] at hs
    cases d with
    | string => exact ok_pure hs
    | slice el =>
      dsimp only at hs
      cases hz : szOf P el with
      | none => rw [hz] at hs; cases hs
      | some sz =>
        rw [hz] at hs
        dsimp only at hs
        unfold sliceV at hs
        split at hs
        · rename_i A n c hsl
          obtain ⟨ih, h1, hs⟩ := Option.bind_eq_some_iff.1 hs
          obtain ⟨il, h2, hs⟩ := Option.bind_eq_some_iff.1 hs
          cases hle : Nat.ble ih c
          · rw [hle] at hs; cases hs
          rw [hle] at hs
          simp only [cond_true] at hs
          cases A with
          | none => cases hs; exact .still (.flat _ rfl)
          | some bo =>
            obtain ⟨b, o⟩ := bo
            dsimp only at hs
            obtain ⟨ex, hg, hs⟩ := Option.bind_eq_some_iff.1 hs
            have hb := hx.asSl hsl
            cases hic : Nat.beq il c
            · rw [hic] at hs; cases hs; exact .still (.sl _ _ _ _ hb)
            · rw [hic] at hs
              cases ex with
              | false => cases hs
              | true => cases hs; exact .still (.sl _ _ _ _ hb)
        · cases hs
    | _ => cases hs
theorem ok_callS {f : Operand} {args : Array Operand} (hf : Sc p (ev e f)) (ha : ∀ x ∈ args.toList, Sc p (ev e x)) (hs : callS P f args e h = some r) : ResOk h p r := by
  unfold callS at hs
  split at hs
  · rename_i gg first captured he
    cases hb : hasBody P gg
    · rw [hb] at hs; cases hs
    · rw [hb] at hs
      cases hs
      rw [he] at hf
      cases hf with
      | flat _ hh => cases hh
      | func _ _ _ h1 h2 =>
        intro v hv
        rcases List.mem_append.1 hv with hv | hv
        · rcases List.mem_append.1 hv with hv | hv
          · obtain ⟨i, hi, hv⟩ := List.getElem_of_mem hv
            exact h1 i v (by rw [← hv]; simp at hi ⊢)
          · obtain ⟨x, hx, rfl⟩ := List.mem_map.1 hv
            exact ha x hx
        · obtain ⟨i, hi, hv⟩ := List.getElem_of_mem hv
          exact h2 i v (by rw [← hv]; simp at hi ⊢)
  · cases hs
theorem step_ok {o : Oper} (hw : HWf h) (hsc : ∀ x ∈ o.op.operands, Sc p (ev e x)) (hs : stepOf P o e h = some r) (hR : RdOk h p r.rd) : ResOk h p r := by
  obtain ⟨dst, op, ty, pos, af, g⟩ := o
  cases op with
  | move x => cases hs; exact .still (hsc x (by simp [Op.operands]))
  | assign x => cases hs; exact .still (hsc x (by simp [Op.operands]))
  | pick c x y => exact ok_pickS (hsc x (by simp [Op.operands])) (hsc y (by simp [Op.operands])) hs
  | alloc t =>
    have hs : allocS P t e h = some r := hs
    unfold allocS at hs
    cases hz : (P.info? t).bind (·.zero) with
    | none => rw [hz] at hs; cases hs
    | some z =>
      rw [hz] at hs
      dsimp only at hs
      cases hf : flat z
      · rw [hf] at hs; cases hs
      · rw [hf] at hs; exact ok_boxV (Sc.of_flat hf) hs
  | box t x => exact ok_boxV (hsc x (by simp [Op.operands])) hs
  | build t parts => exact ok_buildS (fun x hx => hsc x (by simpa [Op.operands] using hx)) hs
  | buildSlice t n parts => exact ok_buildSliceS (fun x hx => hsc x (by simpa [Op.operands] using hx)) hs
  | load t x => exact ok_loadS hw hs hR
  | store t x y => exact ok_storeS hw (hsc y (by simp [Op.operands])) hs hR
  | nilCheck x => exact ok_nilCheckS (hsc x (by simp [Op.operands])) hs
  | fieldAddr s x f => exact ok_fieldAddrS (hsc x (by simp [Op.operands])) hs
  | field s x f => exact ok_fieldS (hsc x (by simp [Op.operands])) hs
  | indexAddr t x i => exact ok_indexAddrS (hsc x (by simp [Op.operands])) hs
  | slice t x lo hi mx =>
    cases mx with
    | none => exact ok_sliceS (hsc x (by simp [Op.operands])) hs
    | some _ => cases hs
  | binOp op t x y t' => exact ok_binS hs
  | unOp op t x => exact ok_unS hs
  | extract t i => exact ok_extractS (hsc t (by simp [Op.operands])) hs
  | convert s d x => exact ok_pure hs
  | index t x i => exact ok_pure hs
  | call c =>
    obtain ⟨callee, args, ts⟩ := c
    cases callee with
    | value f => exact ok_callS (hsc f (by simp [Op.operands, Call.operands])) (fun x hx => hsc x (by simp [Op.operands, Call.operands]; exact .inr (by simpa using hx))) hs
    | invoke _ _ => cases hs
    | builtin b =>
      cases b with
      | len =>
        obtain ⟨l⟩ := args
        obtain ⟨k⟩ := ts
        match l, k, hs with
        | [x], [t], hs => exact ok_lenS hs
        | [], _, hs => cases hs
        | _ :: _ :: _, _, hs => cases hs
        | [_], [], hs => cases hs
        | [_], _ :: _ :: _, hs => cases hs
      | append =>
        obtain ⟨l⟩ := args
        obtain ⟨k⟩ := ts
        match l, k, hsc, hs with
        | [s, x], [t, t'], hsc, hs => exact ok_appendS hw (hsc s (by simp [Op.operands, Call.operands])) hs hR
        | [], _, _, hs => cases hs
        | [_], _, _, hs => cases hs
        | _ :: _ :: _ :: _, _, _, hs => cases hs
        | [_, _], [], _, hs => cases hs
        | [_, _], [_], _, hs => cases hs
        | [_, _], _ :: _ :: _ :: _, _, hs => cases hs
      | max => exact ok_pure hs
      | min => exact ok_pure hs
      | _ => cases hs
  | _ => cases hs
end
end Go.Am
