/- What the operations do in both machines: slices made, loads, stores, append, calls; all operations together. -/
import Derived.Test.YtlblocieleildaaAm7
set_option linter.unusedVariables false
set_option linter.unusedSimpArgs false
namespace Go.Am
open Go.RowKit
section
variable {P : Program} {dst : Option Tmp} {ty : TypeId} {pos : String} {af : Array Edge} {g : Option (Nat × Bool)} {e : Env} {a : Act} {B : Nat} {m : Mp} {h : Heap} {w : World} {r : Res} {p : Nat → Prop}

theorem run_loadVar {t : TypeId} {gg : Bool} {n : Nat} (hg : aggT P t = some gg) (hn : szOf P t = some n) {b o : Nat} {x : Blk} {v : Value} (hb : BRel B m w b x) (hv : cellAt gg n o x = some v) :
    ∃ v', (loadVar t ⟨(m b).blk, (m b).off + o, none⟩).run P w = .ok v' w ∧ VRel m v v' := by
  unfold cellAt at hv
  cases gg with
  | true =>
    simp only [cond_true] at hv
    obtain ⟨cs, hc, rfl⟩ := Option.map_eq_some_iff.1 hv
    obtain ⟨cs', h1, h2, h3⟩ := hb.read hc
    have hl := run_loadCells_list (P := P) w ⟨(m b).blk, (m b).off + o, none⟩ cs' h3
    rw [h2] at hl
    exact ⟨.agg cs'.toArray, by simp [loadVar, run_isAgg hg, run_szOf hn, hl], .mk_agg (by simpa using h1)⟩
  | false =>
    simp only [cond_false] at hv
    obtain ⟨v', h1, h2⟩ := hb.cell hv
    exact ⟨v', by simp [loadVar, run_isAgg hg, h1], h2⟩
theorem sim_load {t : TypeId} {x : Operand} (hp : Pre P ⟨dst, .load t x, ty, pos, af, g⟩ e a B m h w p) (hs : loadS P t x e h = some r) (hT : Reads B m h w p r.rd) : Sim P ⟨dst, .load t x, ty, pos, af, g⟩ a B m h w r := by
  have hx := hp.rel x (by simp [Op.operands])
  have hrun : (execOp a.eval ⟨dst, .load t x, ty, pos, af, g⟩).run P w = (do pure (.value (← Instr.loadAt t (a.eval x))) : Sem Next).run P w := rfl
  unfold loadS at hs
  cases hg : aggT P t with
  | none => rw [hg] at hs; cases hs
  | some gg =>
    cases hn : szOf P t with
    | none => rw [hg, hn] at hs; cases hs
    | some n =>
      rw [hg, hn] at hs
      dsimp only at hs
      unfold loadV at hs
      split at hs
      · rename_i b o hq
        obtain ⟨v, hv, rfl⟩ := Option.map_eq_some_iff.1 hs
        obtain ⟨blk, hblk, hv⟩ := Option.bind_eq_some_iff.1 hv
        have he := hx.asPtr hq
        obtain ⟨v', h1, h2⟩ := run_loadVar hg hn (hT b (by simp [Res.rd]) blk hblk).1 hv
        refine .still (v' := v') (hrun.trans (run_v ?_)) h2
        rw [he]
        simp [Instr.loadAt, run_sureAddr, h1]
      · cases hs
theorem set_done {b : Nat} {x x' : Blk} {o : Nat} {vs' : List Value} (hb : BRel B m w b x) (hro : x.ro = false) (h1 : BRel B m (w.setCells (m b).blk o vs') b x') (hro' : x'.ro = false) : Done B m m h w (w.setCells (m b).blk o vs') (.set b x') := by
  have hB : B ≤ (m b).blk := by
    obtain ⟨_, _, _, _, _, _, _, hh⟩ := hb
    rw [hro] at hh; exact hh.1
  obtain ⟨s1, s2, s3, s4⟩ := setCells_same (b := (m b).blk) vs' o w
  refine ⟨⟨s1, s2, s3, Nat.le_of_eq s4.symm, fun k hk => setCells_far _ _ _ (by omega)⟩, fun _ _ => rfl, fun _ => rfl, fun k hk hne => setCells_far _ _ _ fun hh => hne b (by simp [Eff.wr]) hh.symm, h1, hro'⟩
theorem sim_store {t : TypeId} {x y : Operand} (hp : Pre P ⟨dst, .store t x y, ty, pos, af, g⟩ e a B m h w p) (hs : storeS P t x y e h = some r) (hT : Reads B m h w p r.rd) : Sim P ⟨dst, .store t x y, ty, pos, af, g⟩ a B m h w r := by
  have hx := hp.rel x (by simp [Op.operands])
  have hy := hp.rel y (by simp [Op.operands])
  have hrun : (execOp a.eval ⟨dst, .store t x y, ty, pos, af, g⟩).run P w = (do Instr.storeAt t (a.eval x) (a.eval y); pure .skip : Sem Next).run P w := rfl
  unfold storeS at hs
  cases hn : szOf P t with
  | none => rw [hn] at hs; cases hs
  | some n =>
    rw [hn] at hs
    dsimp only at hs
    unfold storeV at hs
    split at hs
    · rename_i b o hq
      obtain ⟨x', hx', rfl⟩ := Option.map_eq_some_iff.1 hs
      obtain ⟨blk, hblk, hx'⟩ := Option.bind_eq_some_iff.1 hx'
      have he := hx.asPtr hq
      have hb := (hT b (by simp [Res.rd]) blk hblk).1
      unfold storeB at hx'
      cases hc : !blk.ro && Nat.beq (ev e y).cells.toList.length n && Nat.ble (o + n) blk.cells.length && (ev e y).cells.toList.all plainCell
      · rw [hc] at hx'; cases hx'
      · rw [hc] at hx'
        cases hx'
        simp only [Bool.and_eq_true, Bool.not_eq_true'] at hc
        obtain ⟨⟨⟨c1, c2⟩, c3⟩, c4⟩ := hc
        have c2 : (ev e y).cells.toList.length = n := Nat.eq_of_beq_eq_true c2
        have c3 := Nat.le_of_ble_eq_true c3
        have hl := hy.cells c4
        have hst := hb.run_store (P := P) (o := o) c1 (by omega) hl c4
        have hput := hb.put (o := o) (fl := blk.flat && flat (ev e y)) c1 (by omega) hl
        refine ⟨m, _, hrun.trans ?_, set_done hb c1 hput c1⟩
        rw [he]
        have hsz : (a.eval y).cells.size = n := by have := hl.1; simp only [Array.length_toList] at this c2; omega
        simp [Instr.storeAt, run_sureAddr, storeVar, run_szOf hn, hsz, hst]
    · cases hs
theorem fill_all {p : Value → Prop} {place : Nat → Option (Nat × Nat)} : ∀ (ps : List (Nat × Value)) (cs r : Array Value), (∀ q ∈ ps, ∀ v ∈ q.2.cells.toList, p v) → (∀ v ∈ cs.toList, p v) → Instr.fill place cs ps = some r → ∀ v ∈ r.toList, p v
  | [], cs, r, _, hc, hf => by cases hf; exact hc
  | (i, v) :: ps, cs, r, hp, hc, hf => by
    unfold Instr.fill at hf
    cases hpl : place i with
    | none => rw [hpl] at hf; cases hf
    | some os =>
      obtain ⟨off, size⟩ := os
      rw [hpl] at hf
      dsimp only at hf
      split at hf
      · cases hf
      · refine fill_all ps _ r (fun q hq => hp q (by simp [hq])) ?_ hf
        have key : ∀ (l : List Value) (k : Nat) (cs : Array Value), (∀ v ∈ l, p v) → (∀ v ∈ cs.toList, p v) → ∀ v ∈ ((l.zipIdx k).foldl (fun cs (c, j) => cs.setIfInBounds (off + j) c) cs).toList, p v := by
          intro l
          induction l with
          | nil => intro k cs _ hc; exact hc
          | cons x l ih =>
            intro k cs hl hc
            simp only [List.zipIdx_cons, List.foldl_cons]
            refine ih (k + 1) _ (fun v hv => hl v (by simp [hv])) fun v hv => ?_
            rw [Array.toList_setIfInBounds] at hv
            rcases List.mem_or_eq_of_mem_set hv with hv | rfl
            · exact hc v hv
            · exact hl v (by simp)
        have := key v.cells.toList 0 cs (hp (i, v) (by simp)) hc
        rw [← Array.foldl_toList, Array.toList_zipIdx]
        exact this
theorem zeros_eq (z : Array Value) (n : Nat) : zeros z n = (Array.range n).map (z[· % z.size]!) := rfl
theorem sim_buildSlice {t : TypeId} {n : Nat} {parts : Array (Nat × Operand)} (hp : Pre P ⟨dst, .buildSlice t n parts, ty, pos, af, g⟩ e a B m h w p) (hs : buildSliceS P t n parts e h = some r) (hpn : r.eff.isNew = true → ¬ p h.next) : Sim P ⟨dst, .buildSlice t n parts, ty, pos, af, g⟩ a B m h w r := by
  have hr : PRel m (evParts e parts) (parts.map fun (i, x) => (i, a.eval x)).toList := by
    have := parts_rel (m := m) (e := e) (a := a) (parts := parts.toList) fun p hpp => hp.rel p.2 (by simp [Op.operands]; exact ⟨p.1, by simpa using hpp⟩)
    simpa [evParts] using this
  have hsc : ∀ q0 ∈ evParts e parts, Sc p q0.2 := by
    intro q0 hpp
    simp only [evParts, List.mem_map] at hpp
    obtain ⟨q, hq, rfl⟩ := hpp
    exact hp.sc q.2 (by simp [Op.operands]; exact ⟨q.1, by simpa using hq⟩)
  have hrun : (execOp a.eval ⟨dst, .buildSlice t n parts, ty, pos, af, g⟩).run P w = (do pure (.value (← Instr.buildSlice t n (parts.map fun (i, x) => (i, a.eval x)))) : Sem Next).run P w := rfl
  unfold buildSliceS at hs
  cases hu : P.underlying t with
  | none => rw [hu] at hs; cases hs
  | some d =>
    rw [hu] at hs
    cases d with
    | slice el =>
      dsimp only at hs
      cases hi : P.info? el with
      | none => rw [hi] at hs; cases hs
      | some i =>
        rw [hi] at hs
        dsimp only at hs
        cases hz : i.zero with
        | none => rw [hz] at hs; cases hs
        | some z =>
          rw [hz] at hs
          dsimp only at hs
          cases hc : Nat.ble (n * i.size) 16777216 && flat z && !Nat.beq i.size 0 && z.cells.toList.all plainCell
          · rw [hc] at hs; cases hs
          · rw [hc] at hs
            simp only [Bool.and_eq_true, Bool.not_eq_true'] at hc
            obtain ⟨⟨⟨c1, c2⟩, c3⟩, c4⟩ := hc
            have c1 := Nat.le_of_ble_eq_true c1
            simp only [cond_true] at hs
            unfold buildSliceV at hs
            split at hs
            · rename_i cs hcs
              cases hpl : cs.toList.all plainCell
              · rw [hpl] at hs; cases hs
              · rw [hpl] at hs
                cases hs
                obtain ⟨h1, h2⟩ := fillA_some hcs
                have hzr : LRel m (zeros z.cells (n * i.size)).toList (zeros z.cells (n * i.size)).toList := by
                  refine ⟨rfl, fun j v v' e1 e2 => ?_⟩
                  rw [e1] at e2; cases e2
                  simp [zeros] at e1
                  obtain ⟨k, hk, rfl⟩ := e1
                  by_cases hzs : k % z.cells.size < z.cells.size
                  · rw [getElem!_pos z.cells _ hzs]
                    exact (flat_lrel (m := m) c2).2 (k % z.cells.size) _ _ (by simp [hzs]) (by simp [hzs])
                  · rw [getElem!_neg z.cells _ hzs]
                    exact .same _ rfl
                have hzs : ∀ v ∈ (zeros z.cells (n * i.size)).toList, Sc p v := by
                  intro v hv
                  simp [zeros] at hv
                  obtain ⟨k, hk, rfl⟩ := hv
                  by_cases hzs : k % z.cells.size < z.cells.size
                  · rw [getElem!_pos z.cells _ hzs]
                    exact (Sc.of_flat c2).cells _ (by simp)
                  · rw [getElem!_neg z.cells _ hzs]
                    exact .flat _ rfl
                obtain ⟨cs', h3, h4⟩ := fill_rel _ _ _ _ _ hr h1 hzr h2
                have hscs : ∀ v ∈ cs.toList, Sc p v := fill_all _ _ _ (fun q hq => (hsc q hq).cells) hzs h2
                refine ⟨upd m h.next ⟨w.heap.size, 0, cs'.size, none⟩, .slice (some ⟨w.heap.size, 0, none⟩) n n, _, hrun.trans (run_v ?_), ?_, new_block (t := el) hp.base (alloc_below hp.base _) rfl h4.take_all hscs (hpn rfl)⟩
                · have e0 : ¬ (16777216 < n * i.size) := by omega
                  have hp' : (parts.map fun x => (x.1, a.eval x.2)).toList = (parts.map fun (i, x) => (i, a.eval x)).toList := rfl
                  by_cases hh : n * i.size = 0
                  · have hz0 : zeros z.cells (n * i.size) = (Array.range (n * i.size)).map (fun x => (#[] : Array Value)[x % (#[] : Array Value).size]!) := by simp [zeros, hh]
                    rw [hz0] at h3
                    simp only [Instr.buildSlice, Sem.run_bind, run_underlying hu, Result.andThen_ok, sizeOf, typeInfo, run_program, hi, Sem.run_pure, e0, if_false, hh, if_true, pure_bind]
                    rw [hh] at h3
                    rw [h3]
                    simp [newRow]
                  · simp only [Instr.buildSlice, Sem.run_bind, run_underlying hu, Result.andThen_ok, sizeOf, typeInfo, run_program, hi, Sem.run_pure, e0, if_false, hh, zeroValue, hz]
                    rw [zeros_eq] at h3
                    rw [h3]
                    simp [newRow]
                · have := VRel.sl (m := upd m h.next ⟨w.heap.size, 0, cs'.size, none⟩) h.next 0 n n n (.inl rfl)
                  simpa [upd_same] using this
            · cases hs
    | _ => cases hs
end
end Go.Am
