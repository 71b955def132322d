/- What the operations do in both machines: cuts of slices, new memory, loads, stores. -/
import Derived.Test.YtlblocieleildaaAm6
set_option linter.unusedVariables false
set_option linter.unusedSimpArgs false
namespace Go.Am
open Go.RowKit
section
variable {P : Program} {dst : Option Tmp} {ty : TypeId} {pos : String} {af : Array Edge} {g : Option (Nat × Bool)} {e : Env} {a : Act} {B : Nat} {m : Mp} {h : Heap} {w : World} {r : Res} {p : Nat → Prop}

theorem run_cutAt {cap d n : Nat} {x : Option Value} {x' : Option Value} (hc : cutAt cap d x = some n) (hr : ∀ v, x = some v → ∃ v', x' = some v' ∧ VRel m v v') (hn : x = none → x' = none) :
    (x = none ∧ x' = none ∧ n = d) ∨ ∃ k, x' = some (.int k n) ∧ n ≤ cap := by
  unfold cutAt at hc
  split at hc
  · cases hc; exact .inl ⟨rfl, hn rfl, rfl⟩
  · rename_i k mm
    cases hb : Nat.ble mm cap
    · rw [hb] at hc; cases hc
    · rw [hb] at hc
      cases hc
      obtain ⟨v', rfl, hv⟩ := hr _ rfl
      have := VRel.of_flatCell rfl hv
      subst this
      exact .inr ⟨k, rfl, Nat.le_of_ble_eq_true hb⟩
  · cases hc
theorem run_sliceBound {k : IntKind} {n y : Nat} {code : BoundsCode} (hn : n ≤ y) (w : World) : (Instr.sliceBound (.int k n) y code).run P w = .ok n w := by
  simp [Instr.sliceBound, asIntOf, hn]
theorem run_sliceBounds {len cap ih il : Nat} {lo hi lo' hi' : Option Value} (hlo : ∀ v, lo = some v → ∃ v', lo' = some v' ∧ VRel m v v') (hlo' : lo = none → lo' = none) (hhi : ∀ v, hi = some v → ∃ v', hi' = some v' ∧ VRel m v v') (hhi' : hi = none → hi' = none)
    {c : Nat} (hc : cap ≤ c) (h1 : cutAt cap len hi = some ih) (h2 : cutAt ih 0 lo = some il) (w : World) : (Instr.sliceBounds true len c lo' hi' none).run P w = .ok (il, ih, c) w ∧ (il ≤ ih ∨ il = 0) := by
  rcases run_cutAt h1 hhi hhi' with ⟨_, rfl, rfl⟩ | ⟨k, rfl, hk⟩ <;> rcases run_cutAt h2 hlo hlo' with ⟨_, rfl, rfl⟩ | ⟨k', rfl, hk'⟩
  · exact ⟨(by simp [Instr.sliceBounds]), .inr rfl⟩
  · exact ⟨(by simp [Instr.sliceBounds, run_sliceBound hk']), .inl hk'⟩
  · exact ⟨(by simp [Instr.sliceBounds, run_sliceBound (Nat.le_trans hk hc)]), .inr rfl⟩
  · exact ⟨(by simp [Instr.sliceBounds, run_sliceBound (Nat.le_trans hk hc), run_sliceBound hk']), .inl hk'⟩
theorem opt_rel {x : Option Operand} (hx : ∀ y, x = some y → VRel m (ev e y) (a.eval y)) : (∀ v, x.map (ev e) = some v → ∃ v', x.map a.eval = some v' ∧ VRel m v v') ∧ (x.map (ev e) = none → x.map a.eval = none) := by
  cases x with
  | none => exact ⟨fun v hv => (by cases hv), fun _ => rfl⟩
  | some y => exact ⟨fun v hv => (by cases hv; exact ⟨_, rfl, hx y rfl⟩), fun hh => (by cases hh)⟩
theorem asSl_val {v : Value} {A : Option (Nat × Nat)} {n c : Nat} (hp : asSl v = some (A, n, c)) : v = .slice (A.map fun p => ⟨p.1, p.2, none⟩) n c := by
  unfold asSl at hp
  split at hp <;> cases hp <;> rfl
theorem run_sliceAt {t el : TypeId} {sz : Nat} (hu : P.underlying t = some (.slice el)) (hz : szOf P el = some sz) {A : Option Addr} {n c : Nat} {lo hi : Option Value} {il ih : Nat} (hb : (Instr.sliceBounds true n c lo hi none).run P w = .ok (il, ih, c) w) :
    (Instr.sliceAt t (.slice A n c) lo hi none).run P w = .ok (.slice (if c = il then A else A.map (·.add (il * sz))) (ih - il) (c - il)) w := by
  simp [Instr.sliceAt, Instr.slice, run_underlying hu, hb, run_szOf hz]
theorem sim_slice {t : TypeId} {x : Operand} {lo hi : Option Operand} (hp : Pre P ⟨dst, .slice t x lo hi none, ty, pos, af, g⟩ e a B m h w p) (hs : sliceS P ⟨dst, .slice t x lo hi none, ty, pos, af, g⟩ t x lo hi e h = some r) (hT : Reads B m h w p r.rd) :
    Sim P ⟨dst, .slice t x lo hi none, ty, pos, af, g⟩ a B m h w r := by
  have hx := hp.rel x (by simp [Op.operands])
  have hlo := opt_rel (e := e) (a := a) (m := m) (x := lo) fun y hy => hp.rel y (by subst hy; simp [Op.operands])
  have hhi := opt_rel (e := e) (a := a) (m := m) (x := hi) fun y hy => hp.rel y (by subst hy; simp [Op.operands])
  have hrun : (execOp a.eval ⟨dst, .slice t x lo hi none, ty, pos, af, g⟩).run P w = (do pure (.value (← Instr.sliceAt t (a.eval x) (lo.map a.eval) (hi.map a.eval) none)) : Sem Next).run P w := rfl
  unfold sliceS at hs
  cases hu : P.underlying t with
  | none => rw [hu] at hs; cases hs
  | some d =>
    rw [hu] at hs
    cases d with
    | string => exact sim_pure (fun _ _ hh => by cases hh) hp hs
    | slice el =>
      dsimp only at hs
      cases hz : szOf P el with
      | none => rw [hz] at hs; cases hs
      | some sz =>
        rw [hz] at hs
        dsimp only at hs
        unfold sliceV at hs
        split at hs
        · rename_i A n c hsl
          obtain ⟨ih, h1, hs⟩ := Option.bind_eq_some_iff.1 hs
          obtain ⟨il, h2, hs⟩ := Option.bind_eq_some_iff.1 hs
          cases hle : Nat.ble ih c
          · rw [hle] at hs; cases hs
          rw [hle] at hs
          have hle := Nat.le_of_ble_eq_true hle
          simp only [cond_true] at hs
          cases A with
          | none =>
            cases hs
            have hx := hx.asSl_nil hsl
            obtain ⟨hb, _⟩ := run_sliceBounds (P := P) hlo.1 hlo.2 hhi.1 hhi.2 (Nat.le_refl c) h1 h2 w
            refine .still (v' := .slice none (ih - il) (c - il)) (hrun.trans (run_v ?_)) (.same _ rfl)
            rw [hx, run_sliceAt hu hz hb]
            simp
          | some bo =>
            obtain ⟨b, o⟩ := bo
            dsimp only at hs
            obtain ⟨ex, hg, hs⟩ := Option.bind_eq_some_iff.1 hs
            obtain ⟨_, c', hxv, hc'⟩ := hx.asSl hsl
            have hcc : c ≤ c' := by rcases hc' with rfl | ⟨_, _, hh, _⟩ <;> omega
            obtain ⟨hb, hll⟩ := run_sliceBounds (P := P) hlo.1 hlo.2 hhi.1 hhi.2 hcc h1 h2 w
            have hil : il ≤ c := by rcases hll with hh | hh <;> omega
            unfold growOk at hg
            cases hblk : h.get b with
            | none => rw [hblk] at hg; cases hg
            | some blk =>
              rw [hblk] at hg
              dsimp only at hg
              cases hic : Nat.beq il c
              · rw [hic] at hs
                cases hs
                have hne : il ≠ c := fun hh => by subst hh; simp at hic
                have hbr := (hT b (by simp [Res.rd]) blk hblk).1
                refine .still (v' := .slice (some ⟨(m b).blk, (m b).off + (o + il * sz), none⟩) (ih - il) (c' - il)) (hrun.trans (run_v ?_)) (.sl b _ _ _ _ ?_)
                · rw [hxv, run_sliceAt hu hz hb, if_neg (by omega)]
                  simp [add_lit, Nat.add_assoc]
                · rcases hc' with rfl | ⟨gr, hgr, h3, h4⟩
                  · exact .inl rfl
                  · refine .inr ⟨gr, hgr, by omega, ?_⟩
                    obtain ⟨_, _, _, _, hgb, _⟩ := hbr
                    rw [hgr] at hgb
                    rw [← hgb] at hg
                    dsimp only at hg
                    cases hgs : Nat.beq gr sz
                    · rw [hgs] at hg; cases hg
                    · have : gr = sz := Nat.eq_of_beq_eq_true hgs
                      subst this
                      have e1 : il * gr + (c' - il) * gr = c' * gr := by rw [← Nat.add_mul]; congr 1; omega
                      omega
              · rw [hic] at hs
                have hic : il = c := Nat.eq_of_beq_eq_true hic
                subst hic
                cases ex with
                | false => cases hs
                | true =>
                  cases hs
                  have hbr := (hT b (by simp [Res.rd]) blk hblk).1
                  have : c' = il := by
                    rcases hc' with rfl | ⟨gr, hgr, h3, h4⟩
                    · rfl
                    · obtain ⟨_, _, _, _, hgb, _⟩ := hbr
                      rw [hgr] at hgb
                      rw [← hgb] at hg
                      dsimp only at hg
                      cases hgs : Nat.beq gr sz <;> rw [hgs] at hg <;> cases hg
                  subst this
                  refine .still (v' := .slice (some ⟨(m b).blk, (m b).off + o, none⟩) (ih - c') (c' - c')) (hrun.trans (run_v ?_)) (.sl b _ _ _ _ (.inl rfl))
                  rw [hxv, run_sliceAt hu hz hb, if_pos rfl]
        · cases hs
    | _ => cases hs

/-! ### New memory -/
def upd (m : Mp) (b : Nat) (l : Loc) : Mp := fun k => if k = b then l else m k
theorem upd_same (m : Mp) (b : Nat) (l : Loc) : upd m b l b = l := by simp [upd]
theorem upd_ne (m : Mp) {b k : Nat} (l : Loc) (hk : k ≠ b) : upd m b l k = m k := by simp [upd, hk]
theorem win_new {c : Array Value} {n : Nat} : win c 0 n = c.toList.take n := by simp [win]
theorem new_block {cs : List Value} {c : Array Value} {t : TypeId} {fl : Bool} {gr : Option Nat} {w1 : World} (hB : B ≤ w.heap.size) (hw : Below B w w1) (hh : w1.heap = w.heap.push (.cells c t)) (hl : LRel m cs (c.toList.take cs.length)) (hs : ∀ v ∈ cs, Sc p v) (hpn : ¬ p h.next) :
    Done B m (upd m h.next ⟨w.heap.size, 0, c.size, gr⟩) h w w1 (.new ⟨cs, fl, false, gr⟩) := by
  have hat : w1.heap[w.heap.size]? = some (.cells c t (0, 0)) := by rw [hh]; simp
  refine ⟨hw, fun b hb => upd_ne m _ hb, fun hh => (by cases hh), fun k hk _ => ?_, ⟨⟨c, t, (0, 0), ?_, ?_, ?_, ?_, ?_⟩, ?_, rfl⟩⟩
  · rw [hh, Array.getElem?_push, if_neg (by omega)]
  · rw [upd_same]; exact hat
  · rw [upd_same]
  · rw [upd_same]; simp
  · rw [upd_same, win_new]
    exact hl.moved (p := p) (fun b hb => upd_ne m _ fun hh => hpn (by rw [← hh]; exact hb)) hs
  · simp [upd_same]; exact hB
  · rw [upd_same]; exact Nat.le_refl _
theorem LRel.take_all {l l' : List Value} (hl : LRel m l l') : LRel m l (l'.take l.length) := by
  rw [List.take_of_length_le (by rw [hl.1]; exact Nat.le_refl _)]; exact hl
theorem alloc_below (hB : B ≤ w.heap.size) (o : Obj) : Below B w (w.alloc o) := (Below.refl _ _).alloc hB o
theorem sim_boxV {o : Oper} {z z' : Value} {t : TypeId} (hB : B ≤ w.heap.size) (hpn : r.eff.isNew = true → ¬ p h.next) (hz : VRel m z z') (hsc : Sc p z) (hrun : (execOp a.eval o).run P w = .ok (.value (.pointer (some ⟨w.heap.size, 0, none⟩))) (w.alloc (.cells z'.cells t))) (hs : boxV h z = some r) : Sim P o a B m h w r := by
  unfold boxV at hs
  cases hp : z.cells.toList.all plainCell
  · rw [hp] at hs; cases hs
  · rw [hp] at hs
    cases hs
    have hl := hz.cells hp
    refine ⟨upd m h.next ⟨w.heap.size, 0, z'.cells.size, none⟩, _, _, hrun, ?_, new_block hB (alloc_below hB _) rfl hl.take_all hsc.cells (hpn rfl)⟩
    have := VRel.ptr (m := upd m h.next ⟨w.heap.size, 0, z'.cells.size, none⟩) h.next 0
    simpa [upd_same] using this
theorem sim_box {t : TypeId} {x : Operand} (hp : Pre P ⟨dst, .box t x, ty, pos, af, g⟩ e a B m h w p) (hs : boxS x e h = some r) (hpn : r.eff.isNew = true → ¬ p h.next) : Sim P ⟨dst, .box t x, ty, pos, af, g⟩ a B m h w r := by
  refine sim_boxV (t := t) hp.base hpn (hp.rel x (by simp [Op.operands])) (hp.sc x (by simp [Op.operands])) ?_ hs
  show (do pure (.value (← Instr.box t (a.eval x))) : Sem Next).run P w = _
  refine run_v ?_
  simp [Instr.box, newVar, newRow]
theorem info_zero {t : TypeId} {z : Value} (hz : (P.info? t).bind (·.zero) = some z) (w : World) : (zeroValue t).run P w = .ok z w := by
  obtain ⟨i, hi, hz⟩ := Option.bind_eq_some_iff.1 hz
  simp [zeroValue, typeInfo, hi, hz]
theorem sim_alloc {t : TypeId} (hp : Pre P ⟨dst, .alloc t, ty, pos, af, g⟩ e a B m h w p) (hs : allocS P t e h = some r) (hpn : r.eff.isNew = true → ¬ p h.next) : Sim P ⟨dst, .alloc t, ty, pos, af, g⟩ a B m h w r := by
  unfold allocS at hs
  cases hz : (P.info? t).bind (·.zero) with
  | none => rw [hz] at hs; cases hs
  | some z =>
    rw [hz] at hs
    dsimp only at hs
    cases hf : flat z
    · rw [hf] at hs; cases hs
    · rw [hf] at hs
      refine sim_boxV (t := t) hp.base hpn (VRel.flat hf) (Sc.of_flat hf) ?_ hs
      show (do pure (.value (← Instr.alloc t true (.tuple #[]))) : Sem Next).run P w = _
      refine run_v ?_
      simp [Instr.alloc, info_zero hz, newVar, newRow]

/-! ### Values put together -/
theorem LRel.set {l l' : List Value} {v v' : Value} (hl : LRel m l l') (hv : VRel m v v') (i : Nat) : LRel m (l.set i v) (l'.set i v') := by
  refine ⟨by simp [hl.1], fun j x x' h1 h2 => ?_⟩
  rw [List.getElem?_set] at h1 h2
  by_cases hij : i = j
  · subst hij
    rw [if_pos rfl] at h1 h2
    split at h1
    · cases h1
      split at h2
      · cases h2; exact hv
      · cases h2
    · cases h1
  · rw [if_neg hij] at h1 h2
    exact hl.2 j x x' h1 h2
theorem fold_rel {off : Nat} : ∀ (l l' : List Value) (k : Nat) (cs cs' : Array Value), LRel m l l' → LRel m cs.toList cs'.toList →
    LRel m ((l.zipIdx k).foldl (fun cs (c, j) => cs.setIfInBounds (off + j) c) cs).toList ((l'.zipIdx k).foldl (fun cs (c, j) => cs.setIfInBounds (off + j) c) cs').toList
  | [], [], _, _, _, _, hc => hc
  | [], v :: l', _, _, _, hl, _ => by have := hl.1; simp at this
  | v :: l, [], _, _, _, hl, _ => by have := hl.1; simp at this
  | v :: l, v' :: l', k, cs, cs', hl, hc => by
    simp only [List.zipIdx_cons, List.foldl_cons]
    refine fold_rel l l' (k + 1) _ _ ⟨by have := hl.1; simpa using this, fun i x x' h1 h2 => hl.2 (i + 1) x x' (by simpa using h1) (by simpa using h2)⟩ ?_
    simp only [Array.toList_setIfInBounds]
    exact hc.set (hl.2 0 v v' rfl rfl) _
def PRel (m : Mp) : List (Nat × Value) → List (Nat × Value) → Prop
  | [], [] => True
  | p :: r, p' :: r' => p'.1 = p.1 ∧ VRel m p.2 p'.2 ∧ PRel m r r'
  | _, _ => False
theorem fill_rel {place : Nat → Option (Nat × Nat)} : ∀ (ps ps' : List (Nat × Value)) (cs cs' r : Array Value), PRel m ps ps' → (∀ p ∈ ps, p.2.cells.toList.all plainCell = true) → LRel m cs.toList cs'.toList → Instr.fill place cs ps = some r →
    ∃ r', Instr.fill place cs' ps' = some r' ∧ LRel m r.toList r'.toList
  | [], [], cs, cs', r, _, _, hc, h => by cases h; exact ⟨cs', rfl, hc⟩
  | [], _ :: _, _, _, _, h, _, _, _ => h.elim
  | _ :: _, [], _, _, _, h, _, _, _ => h.elim
  | (i, v) :: ps, (i', v') :: ps', cs, cs', r, hp, hpl, hc, h => by
    obtain ⟨h1, h2, h3⟩ := hp
    dsimp only at h1 h2
    subst h1
    have hl := h2.cells (hpl (i', v) (by simp))
    have hsz : v'.cells.size = v.cells.size := by simpa using hl.1
    have hcs : cs'.size = cs.size := by simpa using hc.1
    unfold Instr.fill at h ⊢
    cases hpl' : place i' with
    | none => rw [hpl'] at h; cases h
    | some os =>
      obtain ⟨off, size⟩ := os
      rw [hpl'] at h
      dsimp only at h ⊢
      rw [hsz, hcs]
      split at h
      · cases h
      · rename_i hne
        rw [if_neg hne]
        refine fill_rel ps ps' _ _ r h3 (fun p hp => hpl p (by simp [hp])) ?_ h
        have := fold_rel (m := m) (off := off) v.cells.toList v'.cells.toList 0 cs cs' hl hc
        rw [← Array.foldl_toList, ← Array.foldl_toList, Array.toList_zipIdx, Array.toList_zipIdx]
        exact this
theorem fillA_some {place : Nat → Option (Nat × Nat)} {cs r : Array Value} {ps : List (Nat × Value)} (hf : fillA place cs ps = some r) : (∀ p ∈ ps, p.2.cells.toList.all plainCell = true) ∧ Instr.fill place cs ps = some r := by
  unfold fillA at hf
  cases hp : ps.all fun p => p.2.cells.toList.all plainCell
  · rw [hp] at hf; cases hf
  · rw [hp] at hf; exact ⟨fun p hp' => List.all_eq_true.1 hp p hp', hf⟩
theorem parts_rel {parts : List (Nat × Operand)} (hr : ∀ p ∈ parts, VRel m (ev e p.2) (a.eval p.2)) : PRel m (parts.map fun p => (p.1, ev e p.2)) (parts.map fun p => (p.1, a.eval p.2)) := by
  induction parts with
  | nil => trivial
  | cons p r ih => exact ⟨rfl, hr p (by simp), ih fun q hq => hr q (by simp [hq])⟩
theorem flat_lrel {z : Value} (hf : flat z = true) : LRel m z.cells.toList z.cells.toList := by
  refine ⟨rfl, fun i v v' h1 h2 => ?_⟩
  rw [h1] at h2
  cases h2
  cases z with
  | agg xs => exact .same v (List.all_eq_true.1 (flat_agg hf) v (List.mem_of_getElem? h1))
  | tuple xs =>
    cases i with
    | zero => simp [Value.cells] at h1; subst h1; exact VRel.flat hf
    | succ i => simp [Value.cells] at h1
  | _ => cases i with
    | zero => simp [Value.cells] at h1; subst h1; exact VRel.flat hf
    | succ i => simp [Value.cells] at h1
theorem sim_build {t : TypeId} {parts : Array (Nat × Operand)} (hp : Pre P ⟨dst, .build t parts, ty, pos, af, g⟩ e a B m h w p) (hs : buildS P t parts e h = some r) : Sim P ⟨dst, .build t parts, ty, pos, af, g⟩ a B m h w r := by
  have hr : PRel m (evParts e parts) (parts.map fun (i, x) => (i, a.eval x)).toList := by
    have := parts_rel (m := m) (e := e) (a := a) (parts := parts.toList) fun p hpp => hp.rel p.2 (by simp [Op.operands]; exact ⟨p.1, by simpa using hpp⟩)
    simpa [evParts] using this
  have hrun : (execOp a.eval ⟨dst, .build t parts, ty, pos, af, g⟩).run P w = (do pure (.value (← Instr.build t (parts.map fun (i, x) => (i, a.eval x)))) : Sem Next).run P w := rfl
  have fin : ∀ {place : Nat → Option (Nat × Nat)} {z : Value}, flat z = true → buildV (fillA place z.cells (evParts e parts)) = some r →
      (∀ cs, Instr.fill place z.cells (parts.map fun (i, x) => (i, a.eval x)).toList = some cs → (Instr.build t (parts.map fun (i, x) => (i, a.eval x))).run P w = .ok (.agg cs) w) → Sim P ⟨dst, .build t parts, ty, pos, af, g⟩ a B m h w r := by
    intro place z hz hb hrn
    unfold buildV at hb
    split at hb
    · rename_i cs hcs
      cases hpl : cs.toList.all plainCell
      · rw [hpl] at hb; cases hb
      · rw [hpl] at hb
        cases hb
        obtain ⟨h1, h2⟩ := fillA_some hcs
        obtain ⟨cs', h3, h4⟩ := fill_rel _ _ _ _ _ hr h1 (flat_lrel hz) h2
        exact .still (hrun.trans (run_v (hrn cs' h3))) (.mk_agg h4)
    · cases hb
  unfold buildS at hs
  cases hu : P.underlying t with
  | none => rw [hu] at hs; cases hs
  | some d =>
    cases hz : (P.info? t).bind (·.zero) with
    | none => rw [hu, hz] at hs; cases d <;> cases hs
    | some z =>
      rw [hu, hz] at hs
      cases d with
      | struct fs =>
        dsimp only at hs
        cases hpl : places P fs with
        | none => rw [hpl] at hs; cases hs
        | some ps =>
          rw [hpl] at hs
          dsimp only at hs
          cases hf : flat z
          · rw [hf] at hs; cases hs
          rw [hf] at hs
          refine fin hf hs fun cs hcs => run_build w t _ cs ?_
          have hm : fs.toList.mapM (fun f => (P.info? f.type).map fun i => (f.offset, i.size)) = some ps := by
            rw [← hpl]; unfold places szOf
            congr 1; funext f; cases P.info? f.type <;> rfl
          obtain ⟨it, hit, hzz⟩ := Option.bind_eq_some_iff.1 hz
          simp only [Program.built, hit, hu, hzz, hm]
          simpa using hcs
      | array n el =>
        dsimp only at hs
        cases hn : szOf P el with
        | none => rw [hn] at hs; cases hs
        | some sz =>
          rw [hn] at hs
          dsimp only at hs
          cases hf : flat z
          · rw [hf] at hs; cases hs
          rw [hf] at hs
          refine fin hf hs fun cs hcs => run_build w t _ cs ?_
          obtain ⟨it, hit, hzz⟩ := Option.bind_eq_some_iff.1 hz
          obtain ⟨ie, hie, rfl⟩ := Option.map_eq_some_iff.1 hn
          simp only [Program.built, hit, hu, hzz, hie]
          simpa using hcs
      | _ => cases hs
end
end Go.Am
