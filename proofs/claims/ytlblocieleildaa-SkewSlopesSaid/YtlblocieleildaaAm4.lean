/- How blocks of the abstract machine stand for blocks of the model; what an operation does to both: the operations that touch no memory. -/
import Derived.Test.YtlblocieleildaaAm3
import Derived.Below
import Derived.Deep.AppendSrc
import Derived.Laws.Tables
set_option linter.unusedVariables false
set_option linter.unusedSimpArgs false
namespace Go.Am
open Go.RowKit

/-- a window on a row of cells -/
def win (c : Array Value) (off n : Nat) : List Value := (c.toList.drop off).take n
theorem win_get {c : Array Value} {off n i : Nat} {v : Value} (h : (win c off n)[i]? = some v) : c[off + i]? = some v ∧ i < n := by
  unfold win at h
  rw [List.getElem?_take] at h
  by_cases hi : i < n
  · rw [if_pos hi, List.getElem?_drop, Array.getElem?_toList] at h
    exact ⟨h, hi⟩
  · rw [if_neg hi] at h; cases h
/-- block b in the world -/
def BRel (B : Nat) (m : Mp) (w : World) (b : Nat) (x : Blk) : Prop :=
  ∃ c t fr, w.heap[(m b).blk]? = some (.cells c t fr) ∧ (m b).grow = x.grow ∧ (m b).off + (m b).lim = c.size ∧ LRel m x.cells (win c (m b).off x.cells.length) ∧
    (if x.ro then (m b).blk < B else B ≤ (m b).blk ∧ fr = (0, 0))
theorem BRel.world {B : Nat} {m : Mp} {w w' : World} {b : Nat} {x : Blk} (h : BRel B m w b x) (hw : w'.heap[(m b).blk]? = w.heap[(m b).blk]?) : BRel B m w' b x := by
  obtain ⟨c, t, fr, h1, h2⟩ := h
  exact ⟨c, t, fr, hw.trans h1, h2⟩
theorem BRel.lt {B : Nat} {m : Mp} {w : World} {b : Nat} {x : Blk} (h : BRel B m w b x) : (m b).blk < w.heap.size := by
  obtain ⟨c, t, fr, h1, h2⟩ := h
  rcases Nat.lt_or_ge (m b).blk w.heap.size with hh | hh
  · exact hh
  · rw [Array.getElem?_eq_none hh] at h1; cases h1
theorem BRel.moved {B : Nat} {m m' : Mp} {p : Nat → Prop} {w : World} {b : Nat} {x : Blk} (h : BRel B m w b x) (he : ∀ b, p b → m' b = m b) (hb : m' b = m b) (hs : ∀ v ∈ x.cells, Sc p v) : BRel B m' w b x := by
  obtain ⟨c, t, fr, h1, h2, h3, h4, h5⟩ := h
  refine ⟨c, t, fr, ?_, ?_, ?_, ?_, ?_⟩
  · rw [hb]; exact h1
  · rw [hb]; exact h2
  · rw [hb]; exact h3
  · rw [hb]; exact h4.moved he hs
  · rw [hb]; exact h5
theorem add_lit (b o n : Nat) : Addr.add ⟨b, o, none⟩ n = ⟨b, o + n, none⟩ := Addr.add_lit b o n
theorem BRel.cell {B : Nat} {m : Mp} {w : World} {b o : Nat} {x : Blk} {v : Value} (h : BRel B m w b x) (hv : x.cells[o]? = some v) : ∃ v', w.cell? ⟨(m b).blk, (m b).off + o, none⟩ = some v' ∧ VRel m v v' := by
  obtain ⟨c, t, fr, h1, h2, h3, h4, h5⟩ := h
  obtain ⟨v', hv', hr⟩ := h4.get hv
  exact ⟨v', by simp [World.cell?, h1, (win_get hv').1], hr⟩
theorem cut_some {l cs : List Value} {o n : Nat} (h : cut l o n = some cs) : o + n ≤ l.length ∧ cs = (l.drop o).take n := by
  unfold cut at h
  cases hc : Nat.ble (o + n) l.length
  · rw [hc] at h; cases h
  · rw [hc] at h; cases h; exact ⟨Nat.le_of_ble_eq_true hc, rfl⟩
theorem cut_len {l cs : List Value} {o n : Nat} (h : cut l o n = some cs) : cs.length = n := by
  obtain ⟨h1, rfl⟩ := cut_some h
  simp; omega
theorem BRel.read {B : Nat} {m : Mp} {w : World} {b o n : Nat} {x : Blk} {cs : List Value} (h : BRel B m w b x) (hc : cut x.cells o n = some cs) :
    ∃ cs', LRel m cs cs' ∧ cs'.length = n ∧ ∀ j v, cs'[j]? = some v → w.cell? (Addr.add ⟨(m b).blk, (m b).off + o, none⟩ j) = some v := by
  obtain ⟨c, t, fr, h1, h2, h3, h4, h5⟩ := h
  obtain ⟨hl, rfl⟩ := cut_some hc
  refine ⟨_, (h4.drop o).take n, ?_, fun j v hj => ?_⟩
  · have := h4.1; simp [this]; omega
  · rw [List.getElem?_take] at hj
    by_cases hn : j < n
    · rw [if_pos hn, List.getElem?_drop] at hj
      rw [add_lit]
      simp [World.cell?, h1, Nat.add_assoc, (win_get hj).1]
    · rw [if_neg hn] at hj; cases hj

/-! ### Stores -/
theorem setCell_at {w : World} {b o : Nat} {c : Array Value} {t : TypeId} {fr : Nat × Nat} (h : w.heap[b]? = some (.cells c t fr)) (v : Value) : (w.setCell ⟨b, o, none⟩ v).heap[b]? = some (.cells (c.setIfInBounds o v) t fr) := by
  simp only [World.setCell, Array.getElem?_modify, if_true, h]
  rfl
theorem setCell_far {w : World} {b o k : Nat} (hk : k ≠ b) (v : Value) : (w.setCell ⟨b, o, none⟩ v).heap[k]? = w.heap[k]? := by
  simp only [World.setCell, Array.getElem?_modify]
  rw [if_neg (fun e => hk e.symm)]
theorem setCells_far {b : Nat} : ∀ (vs : List Value) (o : Nat) (w : World) {k : Nat}, k ≠ b → (w.setCells b o vs).heap[k]? = w.heap[k]?
  | [], _, _, _, _ => rfl
  | v :: r, o, w, k, hk => by rw [World.setCells, setCells_far r (o + 1) _ hk, setCell_far hk]
theorem setCells_same {b : Nat} : ∀ (vs : List Value) (o : Nat) (w : World), (w.setCells b o vs).os = w.os ∧ (w.setCells b o vs).tape = w.tape ∧ (w.setCells b o vs).output = w.output ∧ (w.setCells b o vs).heap.size = w.heap.size
  | [], _, _ => ⟨rfl, rfl, rfl, rfl⟩
  | v :: r, o, w => by
    obtain ⟨h1, h2, h3, h4⟩ := setCells_same (b := b) r (o + 1) (w.setCell ⟨b, o, none⟩ v)
    exact ⟨h1, h2, h3, h4.trans (by simp [World.setCell])⟩
theorem setCells_at {b : Nat} {t : TypeId} {fr : Nat × Nat} : ∀ (vs : List Value) (o : Nat) (w : World) (c : Array Value), w.heap[b]? = some (.cells c t fr) → o + vs.length ≤ c.size →
    ∃ c', (w.setCells b o vs).heap[b]? = some (.cells c' t fr) ∧ c'.toList = c.toList.take o ++ vs ++ c.toList.drop (o + vs.length)
  | [], o, w, c, h, hl => ⟨c, h, by simp⟩
  | v :: r, o, w, c, h, hl => by
    simp only [List.length_cons] at hl
    obtain ⟨c', h1, h2⟩ := setCells_at r (o + 1) (w.setCell ⟨b, o, none⟩ v) (c.setIfInBounds o v) (setCell_at h v) (by simp; omega)
    refine ⟨c', h1, h2.trans ?_⟩
    simp only [Array.toList_setIfInBounds, List.length_cons]
    have hlt : o < c.toList.length := by simp; omega
    have e1 : List.take (o + 1) (c.toList.set o v) = c.toList.take o ++ [v] := by
      rw [List.take_add_one, List.take_set_of_le (Nat.le_refl o), List.getElem?_set_self hlt]
      rfl
    have e2 : List.drop (o + 1 + r.length) (c.toList.set o v) = c.toList.drop (o + (r.length + 1)) := by
      rw [List.drop_set_of_lt (by omega)]
      congr 1; omega
    rw [e1, e2]
    simp
theorem putAll_len {l vs : List Value} {o : Nat} (h : o + vs.length ≤ l.length) : (putAll l o vs).length = l.length := by
  simp [putAll]; omega
theorem LRel.put {m : Mp} {l l' vs vs' : List Value} (h : LRel m l l') (k : LRel m vs vs') (o : Nat) : LRel m (putAll l o vs) (putAll l' o vs') := by
  unfold putAll
  rw [k.1]
  exact ((h.take o).append k).append (h.drop _)
theorem win_put {c c' : Array Value} {off n o : Nat} {vs : List Value} (hc : c'.toList = c.toList.take (off + o) ++ vs ++ c.toList.drop (off + o + vs.length)) (hn : off + n ≤ c.size) (ho : o + vs.length ≤ n) :
    win c' off n = putAll (win c off n) o vs := by
  have hsz : c.toList.length = c.size := by simp
  have h1 : (c.toList.take (off + o)).drop off = (c.toList.drop off).take o := by rw [List.drop_take, Nat.add_sub_cancel_left]
  unfold win putAll
  rw [hc, List.append_assoc, List.drop_append, h1]
  have hlen : (c.toList.take (off + o)).length = off + o := by rw [List.length_take]; omega
  rw [hlen, show off - (off + o) = 0 by omega, List.drop_zero]
  have hl2 : ((c.toList.drop off).take o).length = o := by simp; omega
  rw [List.take_append, hl2, List.take_of_length_le (by omega), List.take_append, List.take_of_length_le (by omega : vs.length ≤ n - o)]
  rw [List.take_take, Nat.min_eq_left (by omega), List.append_assoc]
  congr 2
  rw [List.drop_take, List.drop_drop]
  congr 1
  · omega
  · congr 1; omega
theorem BRel.put {B : Nat} {m : Mp} {w : World} {b o : Nat} {x : Blk} {vs vs' : List Value} {fl : Bool} (h : BRel B m w b x) (hro : x.ro = false) (ho : o + vs.length ≤ x.cells.length) (hv : LRel m vs vs') :
    BRel B m (w.setCells (m b).blk ((m b).off + o) vs') b ⟨putAll x.cells o vs, fl, x.ro, x.grow⟩ := by
  obtain ⟨c, t, fr, h1, h2, h3, h4, h5⟩ := h
  have hlen : (win c (m b).off x.cells.length).length = x.cells.length := h4.1
  have hw : (m b).off + x.cells.length ≤ c.size ∨ x.cells.length = 0 := by
    unfold win at hlen; simp at hlen; omega
  have hsz : (m b).off + x.cells.length ≤ c.size := by rcases hw with hw | hw <;> omega
  obtain ⟨c', k1, k2⟩ := setCells_at vs' ((m b).off + o) w c h1 (by rw [hv.1]; omega)
  have hs' : c'.size = c.size := by
    have := congrArg List.length k2
    simp at this
    rw [hv.1] at this
    omega
  refine ⟨c', t, fr, k1, h2, h3.trans hs'.symm, ?_, h5⟩
  show LRel m (putAll x.cells o vs) (win c' (m b).off (putAll x.cells o vs).length)
  rw [putAll_len ho, win_put k2 hsz (by rw [hv.1]; exact ho)]
  exact h4.put hv o
theorem one_of_plain {v : Value} (h : plainCell v = true) : v.oneCell' = true := by cases v <;> first | rfl | cases h
theorem BRel.run_store {P : Program} {B : Nat} {m : Mp} {w : World} {b o : Nat} {x : Blk} {vs vs' : List Value} (h : BRel B m w b x) (hro : x.ro = false) (ho : o + vs.length ≤ x.cells.length) (hv : LRel m vs vs') (hp : vs.all plainCell = true) :
    (storeCells ⟨(m b).blk, (m b).off + o, none⟩ vs').run P w = .ok () (w.setCells (m b).blk ((m b).off + o) vs') := by
  obtain ⟨c, t, fr, h1, h2, h3, h4, h5⟩ := h
  rw [hro] at h5
  obtain ⟨h5, rfl⟩ := h5
  have hlen : (win c (m b).off x.cells.length).length = x.cells.length := h4.1
  have hsz : (m b).off + x.cells.length ≤ c.size ∨ x.cells.length = 0 := by
    unfold win at hlen; simp at hlen; omega
  have := run_storeCells_cells (P := P) (m b).blk ((m b).off + o) vs' 0 w
    (fun j hj => by
      have : (m b).off + o + 0 + j < c.size := by rw [hv.1] at hj; omega
      simp [World.cell?, h1]; omega)
    (fun j hj => by simp [World.frozen?, h1])
    (fun v hv' => one_of_plain (List.all_eq_true.1 (hv.plain hp) v hv'))
  simpa using this

/-! ### What an operation leaves -/
structure Done (B : Nat) (m m' : Mp) (h : Heap) (w w' : World) (f : Eff) : Prop where
  below : Below B w w'
  keep : ∀ b, b ≠ h.next → m' b = m b
  same : f.isNew = false → m' = m
  far : ∀ k, k < w.heap.size → (∀ b ∈ f.wr, (m b).blk ≠ k) → w'.heap[k]? = w.heap[k]?
  eff : match f with
    | .non => True
    | .new x => BRel B m' w' h.next x ∧ w.heap.size ≤ (m' h.next).blk ∧ x.ro = false
    | .set b x => BRel B m' w' b x ∧ x.ro = false
    | .mv k x => BRel B m' w' h.next x ∧ ((m' h.next).blk = (m k).blk ∨ w.heap.size ≤ (m' h.next).blk) ∧ x.ro = false
theorem Done.rfl {B : Nat} {m : Mp} {h : Heap} {w : World} : Done B m m h w w .non := ⟨Below.refl _ _, fun _ _ => Eq.refl _, fun _ => Eq.refl _, fun _ _ _ => Eq.refl _, trivial⟩
def Sim (P : Program) (o : Oper) (a : Act) (B : Nat) (m : Mp) (h : Heap) (w : World) : Res → Prop
  | .val v _ f => ∃ m' v' w', (execOp a.eval o).run P w = .ok (.value v') w' ∧ VRel m' v v' ∧ Done B m m' h w w' f
  | .unit _ f => ∃ m' w', (execOp a.eval o).run P w = .ok .skip w' ∧ Done B m m' h w w' f
  | .enter g args => ∃ args', (execOp a.eval o).run P w = .ok (.enter g args'.toArray) w ∧ LRel m args args'
theorem Sim.still {P : Program} {o : Oper} {a : Act} {B : Nat} {m : Mp} {h : Heap} {w : World} {v v' : Value} {rd : List Nat} (hr : (execOp a.eval o).run P w = .ok (.value v') w) (hv : VRel m v v') : Sim P o a B m h w (.val v rd .non) :=
  ⟨m, v', w, hr, hv, .rfl⟩

theorem run_v {P : Program} {s : Sem Value} {v : Value} {w w' : World} (h : s.run P w = .ok v w') : (do pure (.value (← s)) : Sem Next).run P w = .ok (.value v) w' := by
  simp [h]
theorem pureRun_run {α : Type} {P : Program} : ∀ {s : Sem α} {r : α}, pureRun P s = some r → ∀ w, s.run P w = .ok r w
  | .pure _, _, h, _ => by cases h; rfl
  | .program k, _, h, w => pureRun_run (s := k P) h w
  | .mark _ k, _, h, w => pureRun_run (s := k) h w
  | .load .., _, h, _ => by cases h
  | .store .., _, h, _ => by cases h
  | .new .., _, h, _ => by cases h
  | .shape .., _, h, _ => by cases h
  | .freeze .., _, h, _ => by cases h
  | .frozen .., _, h, _ => by cases h
  | .getObj .., _, h, _ => by cases h
  | .setObj .., _, h, _ => by cases h
  | .choose .., _, h, _ => by cases h
  | .sys .., _, h, _ => by cases h
  | .halt _, _, h, _ => by cases h
end Go.Am
