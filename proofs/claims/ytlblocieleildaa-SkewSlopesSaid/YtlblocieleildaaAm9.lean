/- What the operations do in both machines: append, calls; all operations together. -/
import Derived.Test.YtlblocieleildaaAm8
set_option linter.unusedVariables false
set_option linter.unusedSimpArgs false
namespace Go.Am
open Go.RowKit
section
variable {P : Program} {dst : Option Tmp} {ty : TypeId} {pos : String} {af : Array Edge} {g : Option (Nat × Bool)} {e : Env} {a : Act} {B : Nat} {m : Mp} {h : Heap} {w : World} {r : Res} {p : Nat → Prop}

theorem BRel.size {b : Nat} {x : Blk} {c : Array Value} {t : TypeId} {fr : Nat × Nat} (h1 : w.heap[(m b).blk]? = some (.cells c t fr)) (hb : BRel B m w b x) : (m b).off + x.cells.length ≤ c.size ∨ x.cells.length = 0 := by
  obtain ⟨c', t', fr', k1, _, _, k4, _⟩ := hb
  rw [h1] at k1
  cases k1
  have := k4.1
  unfold win at this
  simp at this
  omega
theorem BRel.there {b o n : Nat} {x : Blk} (hb : BRel B m w b x) (hro : x.ro = false) (hn : o + n ≤ x.cells.length) :
    (∀ j, j < n → (w.cell? ⟨(m b).blk, (m b).off + o + j, none⟩).isSome = true) ∧ (∀ j, j < n → w.frozen? ⟨(m b).blk, (m b).off + o + j, none⟩ = false) := by
  obtain ⟨c, t, fr, h1, h2, h3, h4, h5⟩ := id hb
  have := hb.size h1
  rw [hro] at h5
  obtain ⟨h5, rfl⟩ := h5
  exact ⟨fun j hj => by simp [World.cell?, h1]; omega, fun j hj => by simp [World.frozen?, h1]⟩
/-- what is appended, in both machines -/
theorem cellsOf_src {sz n : Nat} {x x' : Value} {t' e' : TypeId} {rd : List Nat} {cs : List Value} {fl : Bool} (hk : P.underlying t' = some (.slice e')) (hpl : ∀ b x, h.get b = some x → x.cells.all plainCell = true) (hx : VRel m x x')
    (hc : cellsOf h sz x = some (rd, cs, fl, n)) (hT : Reads B m h w p rd) : ∃ cs', Src P sz t' x' n cs' w ∧ LRel m cs cs' ∧ cs.length = n * sz ∧ (∀ v ∈ cs, Sc p v) ∧ cs.all plainCell = true := by
  unfold cellsOf at hc
  split at hc
  · rename_i n' c
    cases h0 : Nat.beq n' 0
    · rw [h0] at hc; cases hc
    · rw [h0] at hc
      have h0 : n' = 0 := Nat.eq_of_beq_eq_true h0
      subst h0
      cases hc
      have := VRel.of_flatCell rfl hx
      subst this
      exact ⟨[], Src.ofNil w hk c, .nil, by simp, fun v hv => (by cases hv), rfl⟩
  · rename_i b o n' c
    obtain ⟨blk, hblk, hc⟩ := Option.bind_eq_some_iff.1 hc
    obtain ⟨cs1, hcs, hc⟩ := Option.map_eq_some_iff.1 hc
    cases hc
    obtain ⟨c', rfl, _⟩ := hx.sl_inv
    have hb := (hT b (by simp) blk hblk).1
    obtain ⟨cs', h1, h2, h3⟩ := hb.read hcs
    have hmem : ∀ v ∈ cs, v ∈ blk.cells := by
      obtain ⟨_, rfl⟩ := cut_some hcs
      exact fun v hv => List.mem_of_mem_drop (List.mem_of_mem_take hv)
    have hpc : cs.all plainCell = true := List.all_eq_true.2 fun v hv => List.all_eq_true.1 (hpl b blk hblk) v (hmem v hv)
    exact ⟨cs', Src.ofSlice w hk _ n c' cs' h2 h3 (fun u hu => one_of_plain (List.all_eq_true.1 (h1.plain hpc) u hu)), h1, cut_len hcs, fun v hv => (hT b (by simp) blk hblk).2 v (hmem v hv), hpc⟩
  · cases hc
theorem appendTo_rd {sz bytes n : Nat} {s : Value} {rd : List Nat} {cs : List Value} {fl : Bool} {h : Heap} {r : Res} (hs : appendTo h sz bytes s rd cs fl n = some r) : ∀ b ∈ rd, b ∈ r.rd := by
  intro b hb
  unfold appendTo at hs
  split at hs
  · rename_i len cap
    cases hq : Nat.beq len 0 && Nat.beq cap 0
    · rw [hq] at hs; cases hs
    · rw [hq] at hs
      cases hn : Nat.beq n 0
      · rw [hn] at hs
        cases hm : Nat.ble (n * bytes) 140737488355328
        · rw [hm] at hs; cases hs
        · rw [hm] at hs; cases hs; exact hb
      · rw [hn] at hs; cases hs; exact hb
  · rename_i b' o len cap
    obtain ⟨blk, hblk, hs⟩ := Option.bind_eq_some_iff.1 hs
    cases hn : Nat.beq n 0
    · rw [hn] at hs
      simp only [cond_false] at hs
      cases hr : Nat.ble (len + n) cap
      · rw [hr] at hs
        simp only [cond_false] at hs
        cases hm : Nat.ble ((len + n) * bytes) 140737488355328
        · rw [hm] at hs; cases hs
        · rw [hm] at hs
          obtain ⟨old, hold, hs⟩ := Option.bind_eq_some_iff.1 hs
          split at hs
          · cases hs; exact List.mem_cons_of_mem _ hb
          · rename_i gr _
            cases hgr : Nat.beq gr sz && !blk.ro
            · rw [hgr] at hs; cases hs
            · rw [hgr] at hs; cases hs; exact List.mem_cons_of_mem _ hb
      · rw [hr] at hs
        simp only [cond_true] at hs
        cases hm : !blk.ro && Nat.ble (o + (len + n) * sz) blk.cells.length
        · rw [hm] at hs; cases hs
        · rw [hm] at hs; cases hs; exact List.mem_cons_of_mem _ hb
    · rw [hn] at hs
      simp only [cond_true] at hs
      cases hm : Nat.ble len cap
      · rw [hm] at hs; cases hs
      · rw [hm] at hs; cases hs; exact List.mem_cons_of_mem _ hb
  · cases hs
theorem size_zeroCells (z : Array Value) (n : Nat) : (Builtin.zeroCells z n).size = n * z.size := by simp [Builtin.zeroCells]
theorem le_grown (w : World) (need old : Nat) (el : TypeId) : need ≤ grownCap w need old el := by
  unfold grownCap; exact Nat.le_add_right _ _
theorem run_append_nil0 {t tx ty el : TypeId} {i : TypeInfo} {x : Value} {news : List Value} (ht : P.underlying t = some (.slice el)) (hi : P.info? el = some i) (hs : Src P i.size tx x 0 news w) :
    (Builtin.append_ #[t, tx] ty #[.slice none 0 0, x]).run P w = .ok (.slice none 0 0) w := by
  rcases hs.kind with ⟨e', hk⟩ | hk <;> simp [Builtin.append_, run_underlying ht, run_underlying hk, sizeOf, typeInfo, hi, hs.len, hs.cells]
theorem drew_eq (w : World) : w.drew.heap = w.heap := rfl
theorem Below_drew_alloc (hB : B ≤ w.heap.size) (o : Obj) : Below B w (w.drew.alloc o) := ((Below.refl B w).drew).alloc hB o
/-- a new row: what was there, what is appended, and zeros -/
theorem grown_block {cs cs' : List Value} {z : Array Value} {k : Nat} {el : TypeId} {fl : Bool} {gr : Option Nat} (hB : B ≤ w.heap.size) (hl : LRel m cs cs') (hs : ∀ v ∈ cs, Sc p v) (hpn : ¬ p h.next) :
    Done B m (upd m h.next ⟨w.heap.size, 0, (cs'.toArray ++ Builtin.zeroCells z k).size, gr⟩) h w (w.drew.alloc (.cells (cs'.toArray ++ Builtin.zeroCells z k) el)) (.new ⟨cs, fl, false, gr⟩) := by
  refine new_block hB (Below_drew_alloc hB _) rfl ?_ hs hpn
  have : (cs'.toArray ++ Builtin.zeroCells z k).toList.take cs.length = cs' := by
    simp only [Array.toList_append, List.toList_toArray]
    rw [List.take_append_of_le_length (by rw [hl.1]; exact Nat.le_refl _), List.take_of_length_le (by rw [hl.1]; exact Nat.le_refl _)]
  rw [this]; exact hl
theorem mul_room {len n cap sz : Nat} (hr : len + n ≤ cap) : len * sz + n * sz ≤ cap * sz := by rw [← Nat.add_mul]; exact Nat.mul_le_mul_right _ hr
theorem new_to_mv {b k : Nat} {m' : Mp} {w' : World} {x : Blk} (hd : Done B m m' h w w' (.new x)) : Done B m m' h w w' (.mv b x) :=
  ⟨hd.below, hd.keep, fun hh => (by cases hh), fun k hk _ => hd.far k hk (by simp [Eff.wr]), hd.eff.1, .inr hd.eff.2.1, hd.eff.2.2⟩
theorem sim_append {s x : Operand} {t t' : TypeId} (hp : Pre P ⟨dst, .call ⟨.builtin .append, #[s, x], #[t, t']⟩, ty, pos, af, g⟩ e a B m h w p) (hs : appendS P t t' s x e h = some r) (hT : Reads B m h w p r.rd) (hpn : r.eff.isNew = true → ¬ p h.next) :
    Sim P ⟨dst, .call ⟨.builtin .append, #[s, x], #[t, t']⟩, ty, pos, af, g⟩ a B m h w r := by
  have hsr := hp.rel s (by simp [Op.operands, Call.operands])
  have hxr := hp.rel x (by simp [Op.operands, Call.operands])
  have hrun : (execOp a.eval ⟨dst, .call ⟨.builtin .append, #[s, x], #[t, t']⟩, ty, pos, af, g⟩).run P w = (do pure (.value (← Builtin.append_ #[t, t'] ty #[a.eval s, a.eval x])) : Sem Next).run P w := by
    rw [run_builtin]; simp [builtin]
  unfold appendS at hs
  cases hk : P.underlying t' with
  | none => rw [hk] at hs; cases hs
  | some d' =>
  cases d' with
  | slice e' =>
    cases ht : P.underlying t with
    | none => rw [hk, ht] at hs; cases hs
    | some d =>
    cases d with
    | slice el =>
      rw [hk, ht] at hs
      dsimp only at hs
      cases hi : P.info? el with
      | none => rw [hi] at hs; cases hs
      | some i =>
        rw [hi] at hs
        dsimp only at hs
        cases hz : i.zero with
        | none => rw [hz] at hs; cases hs
        | some z =>
          rw [hz] at hs
          dsimp only at hs
          cases hc : !Nat.beq i.size 0 && !Nat.beq i.bytes 0 && Nat.beq z.cells.size i.size
          · rw [hc] at hs; cases hs
          · rw [hc] at hs
            simp only [Bool.and_eq_true, Bool.not_eq_true'] at hc
            obtain ⟨⟨c1, c2⟩, c3⟩ := hc
            have c1 : 0 < i.size := Nat.pos_of_ne_zero fun hh => by rw [hh] at c1; cases c1
            have c2 : 0 < i.bytes := Nat.pos_of_ne_zero fun hh => by rw [hh] at c2; cases c2
            have c3 : z.cells.size = i.size := Nat.eq_of_beq_eq_true c3
            simp only [cond_true] at hs
            unfold appendV at hs
            split at hs
            · rename_i rd cs fl n hcs
              have hrd : ∀ b ∈ rd, b ∈ r.rd := appendTo_rd hs
              obtain ⟨cs', hsrc, hl, hlen, hsc, hpc⟩ := cellsOf_src (w := w) hk hp.plain hxr hcs fun b hb => hT b (hrd b hb)
              clear hrd
              unfold appendTo at hs
              split at hs
              · rename_i len cap hes
                rw [hes] at hsr
                have hsr := VRel.of_flatCell rfl hsr
                cases hq : Nat.beq len 0 && Nat.beq cap 0
                · rw [hq] at hs; cases hs
                rw [hq] at hs
                rw [Bool.and_eq_true] at hq
                have h1 : len = 0 := Nat.eq_of_beq_eq_true hq.1
                have h2 : cap = 0 := Nat.eq_of_beq_eq_true hq.2
                subst h1; subst h2
                simp only [cond_true] at hs
                cases hn : Nat.beq n 0
                · rw [hn] at hs
                  have hn0 : 0 < n := Nat.pos_of_ne_zero fun hh => by rw [hh] at hn; cases hn
                  simp only [cond_false] at hs
                  cases hm : Nat.ble (n * i.bytes) 140737488355328
                  · rw [hm] at hs; cases hs
                  · rw [hm] at hs
                    cases hs
                    have hm := Nat.le_of_ble_eq_true hm
                    have hnb : n ≤ n * i.bytes := Nat.le_mul_of_pos_right _ c2
                    have hgrow := run_append_grow_src (P := P) w t t' ty el i z ht hi hz none 0 0 [] (by simp [Builtin.firstCells]) (a.eval x) n cs' hsrc (by omega) (by omega) (growslice_fits (by omega) (by simpa using hm))
                    simp only [Nat.zero_add, List.nil_append] at hgrow
                    refine ⟨_, _, _, hrun.trans (run_v (by rw [hsr]; exact hgrow)), ?_, grown_block hp.base hl hsc (hpn rfl)⟩
                    have := VRel.sl (m := upd m h.next ⟨w.heap.size, 0, (cs'.toArray ++ Builtin.zeroCells z.cells (grownCap w n 0 el - n)).size, some i.size⟩) h.next 0 n n (grownCap w n 0 el)
                      (.inr ⟨i.size, by rw [upd_same], le_grown _ _ _ _, by
                        rw [upd_same]
                        have hg := le_grown w n 0 el
                        simp only [Array.size_append, size_zeroCells, c3, List.size_toArray, hsrc.newsLen, Nat.zero_add]
                        rw [← Nat.add_mul]
                        exact Nat.mul_le_mul_right _ (by omega)⟩)
                    simpa [upd_same] using this
                · rw [hn] at hs
                  have hn : n = 0 := Nat.eq_of_beq_eq_true hn
                  subst hn
                  cases hs
                  refine .still (v' := .slice none 0 0) (hrun.trans (run_v ?_)) (by rw [hes]; exact .same _ rfl)
                  rw [hsr]
                  exact run_append_nil0 ht hi hsrc
              · rename_i b o len cap hes
                rw [hes] at hsr
                obtain ⟨c', hsv, hcap⟩ := hsr.sl_inv
                have hcc : cap ≤ c' := by rcases hcap with rfl | ⟨_, _, hh, _⟩ <;> omega
                obtain ⟨blk, hblk, hs⟩ := Option.bind_eq_some_iff.1 hs
                cases hn : Nat.beq n 0
                · rw [hn] at hs
                  have hn0 : 0 < n := Nat.pos_of_ne_zero fun hh => by rw [hh] at hn; cases hn
                  simp only [cond_false] at hs
                  cases hr : Nat.ble (len + n) cap
                  · rw [hr] at hs
                    have hr' : cap < len + n := by
                      rcases Nat.lt_or_ge cap (len + n) with hh | hh
                      · exact hh
                      · rw [Nat.ble_eq_true_of_le hh] at hr; cases hr
                    simp only [cond_false] at hs
                    cases hm : Nat.ble ((len + n) * i.bytes) 140737488355328
                    · rw [hm] at hs; cases hs
                    rw [hm] at hs
                    have hm := Nat.le_of_ble_eq_true hm
                    have hnb : len + n ≤ (len + n) * i.bytes := Nat.le_mul_of_pos_right _ c2
                    obtain ⟨old, hold, hs⟩ := Option.bind_eq_some_iff.1 hs
                    -- a new row in the model
                    have hnew : ∀ (hb : BRel B m w b blk) (hcb : ∀ v ∈ blk.cells, Sc p v) (hpn' : ¬ p h.next) (hgr : c' < len + n), ∃ m' v' w', (Builtin.append_ #[t, t'] ty #[.slice (some ⟨(m b).blk, (m b).off + o, none⟩) len c', a.eval x]).run P w = .ok v' w' ∧
                        VRel m' (.slice (some ⟨h.next, 0, none⟩) (len + n) (len + n)) v' ∧ Done B m m' h w w' (.new ⟨old ++ cs, blk.flat && fl, false, some i.size⟩) := by
                      intro hb hcb hpn' hgr
                      obtain ⟨old', ho1, ho2, ho3⟩ := hb.read hold
                      have hgrow := run_append_grow_src (P := P) w t t' ty el i z ht hi hz (some ⟨(m b).blk, (m b).off + o, none⟩) len c' old'
                        (run_firstCells_some w.drew i.size len _ len c' old' ho2 (by simpa using ho3)) (a.eval x) n cs' hsrc hgr (by omega) (growslice_fits hgr hm)
                      have hso : ∀ v ∈ old ++ cs, Sc p v := by
                        intro v hv
                        rcases List.mem_append.1 hv with hv | hv
                        · obtain ⟨_, rfl⟩ := cut_some hold
                          exact hcb v (List.mem_of_mem_drop (List.mem_of_mem_take hv))
                        · exact hsc v hv
                      refine ⟨_, _, _, hgrow, ?_, grown_block hp.base (ho1.append hl) hso hpn'⟩
                      have := VRel.sl (m := upd m h.next ⟨w.heap.size, 0, ((old' ++ cs').toArray ++ Builtin.zeroCells z.cells (grownCap w (len + n) c' el - (len + n))).size, some i.size⟩) h.next 0 (len + n) (len + n) (grownCap w (len + n) c' el)
                        (.inr ⟨i.size, by rw [upd_same], le_grown _ _ _ _, by
                          rw [upd_same]
                          have hg := le_grown w (len + n) c' el
                          simp only [Array.size_append, size_zeroCells, c3, List.size_toArray, List.length_append, hsrc.newsLen, ho2, Nat.zero_add]
                          rw [← Nat.add_mul, ← Nat.add_mul]
                          exact Nat.mul_le_mul_right _ (by omega)⟩)
                      simpa [upd_same] using this
                    split at hs
                    · rename_i hgn
                      cases hs
                      obtain ⟨hb, hcb⟩ := hT b (by simp [Res.rd]) blk hblk
                      have : c' = cap := by
                        rcases hcap with rfl | ⟨gr, hgr, _⟩
                        · rfl
                        · obtain ⟨_, _, _, _, hgb, _⟩ := hb
                          rw [hgr, hgn] at hgb; cases hgb
                      obtain ⟨m', v', w', k1, k2, k3⟩ := hnew hb hcb (hpn rfl) (by omega)
                      exact ⟨m', v', w', hrun.trans (run_v (by rw [hsv]; exact k1)), k2, k3⟩
                    · rename_i gr hgn
                      cases hgs : Nat.beq gr i.size && !blk.ro
                      · rw [hgs] at hs; cases hs
                      · rw [hgs] at hs
                        rw [Bool.and_eq_true, Bool.not_eq_true'] at hgs
                        obtain ⟨hgs, hro⟩ := hgs
                        have hgs : gr = i.size := Nat.eq_of_beq_eq_true hgs
                        subst hgs
                        cases hs
                        obtain ⟨hb, hcb⟩ := hT b (by simp [Res.rd]) blk hblk
                        rcases Nat.lt_or_ge c' (len + n) with hlt | hge
                        · obtain ⟨m', v', w', k1, k2, k3⟩ := hnew hb hcb (hpn rfl) hlt
                          exact ⟨m', v', w', hrun.trans (run_v (by rw [hsv]; exact k1)), k2, new_to_mv (k := 0) k3⟩
                        · -- in place
                          have hlim : (m b).grow = some i.size ∧ o + c' * i.size ≤ (m b).lim := by
                            rcases hcap with rfl | ⟨gr, hgr, _, hh⟩
                            · omega
                            · have hgb := hb
                              obtain ⟨_, _, _, _, hgb, _⟩ := hgb
                              rw [hgr, hgn] at hgb
                              cases hgb
                              exact ⟨hgr, hh⟩
                          obtain ⟨c, tt, fr, b1, b2, b3, b4, b5⟩ := id hb
                          rw [hro] at b5
                          obtain ⟨b5, rfl⟩ := b5
                          have hmr := mul_room (sz := i.size) hge
                          obtain ⟨hcl, rfl⟩ := cut_some hold
                          have hsize := hb.size b1
                          have hcsl : cs'.length = n * i.size := hsrc.newsLen
                          have hroom := run_append_room_src (P := P) w t t' ty el i ht hi (m b).blk ((m b).off + o) len c' (a.eval x) n cs' hsrc hge
                            (fun j hj => by simp [World.cell?, b1]; omega) (fun j hj => by simp [World.frozen?, b1])
                          obtain ⟨c2', d1, d2⟩ := setCells_at cs' ((m b).off + o + len * i.size) w c b1 (by omega)
                          have d3 : c2'.size = c.size := by
                            have := congrArg List.length d2
                            simp at this
                            omega
                          obtain ⟨s1, s2, s3, s4⟩ := setCells_same (b := (m b).blk) cs' ((m b).off + o + len * i.size) w
                          refine ⟨upd m h.next ⟨(m b).blk, (m b).off + o, (m b).lim - o, some i.size⟩, _, _, hrun.trans (run_v (by rw [hsv]; exact hroom)), ?_, ⟨⟨s1, s2, s3, Nat.le_of_eq s4.symm, fun k hk => setCells_far _ _ _ (by omega)⟩, fun k hk => upd_ne m _ hk, fun hh => (by cases hh), fun k hk hne => setCells_far _ _ _ fun hh => hne b (by simp [Eff.wr]) hh.symm, ⟨c2', tt, (0, 0), ?_, ?_, ?_, ?_, ?_⟩, ?_, rfl⟩⟩
                          · have := VRel.sl (m := upd m h.next ⟨(m b).blk, (m b).off + o, (m b).lim - o, some i.size⟩) h.next 0 (len + n) (len + n) c' (.inr ⟨i.size, by rw [upd_same], hge, by rw [upd_same]; simp only; omega⟩)
                            simpa [upd_same] using this
                          · rw [upd_same]; exact d1
                          · rw [upd_same]
                          · rw [upd_same]; simp only; omega
                          · rw [upd_same]
                            have hlen2 : (List.take (len * i.size) (List.drop o blk.cells) ++ cs).length = len * i.size + n * i.size := by simp; omega
                            have hw1 : win c2' ((m b).off + o) (List.take (len * i.size) (List.drop o blk.cells) ++ cs).length = (win c (m b).off blk.cells.length |>.drop o).take (len * i.size) ++ cs' := by
                              rw [hlen2]
                              unfold win
                              rw [d2, List.append_assoc, List.drop_append, List.drop_take, List.length_take, List.take_append]
                              have e1 : (m b).off + o + len * i.size - ((m b).off + o) = len * i.size := by omega
                              have e2 : (m b).off + o - min ((m b).off + o + len * i.size) c.toList.length = 0 := by simp; omega
                              rw [e1, e2, List.drop_zero, List.take_take, List.length_take, List.length_drop, List.take_append]
                              have e3 : len * i.size + n * i.size - min (len * i.size) (c.toList.length - ((m b).off + o)) = cs'.length := by simp; omega
                              rw [e3, List.take_of_length_le (Nat.le_refl _), Nat.sub_self, List.take_zero, List.append_nil, Nat.min_eq_right (by omega), List.drop_take, List.drop_drop, List.take_take]
                              rw [Nat.min_eq_left (by omega : len * i.size ≤ blk.cells.length - o)]
                            rw [hw1]
                            exact (((b4.drop o).take _).append hl).moved (p := p) (fun k hk => upd_ne m _ fun hh => hpn rfl (by rw [← hh]; exact hk)) (by
                              intro v hv
                              rcases List.mem_append.1 hv with hv | hv
                              · exact hcb v (List.mem_of_mem_drop (List.mem_of_mem_take hv))
                              · exact hsc v hv)
                          · simp [upd_same]; exact b5
                          · rw [upd_same]; exact .inl rfl
                  · rw [hr] at hs
                    have hr := Nat.le_of_ble_eq_true hr
                    simp only [cond_true] at hs
                    cases hm : !blk.ro && Nat.ble (o + (len + n) * i.size) blk.cells.length
                    · rw [hm] at hs; cases hs
                    · rw [hm] at hs
                      rw [Bool.and_eq_true, Bool.not_eq_true'] at hm
                      obtain ⟨hro, hm⟩ := hm
                      have hm := Nat.le_of_ble_eq_true hm
                      cases hs
                      obtain ⟨hb, hcb⟩ := hT b (by simp [Res.rd]) blk hblk
                      have e1 : (len + n) * i.size = len * i.size + n * i.size := Nat.add_mul _ _ _
                      obtain ⟨t1, t2⟩ := hb.there (o := o + len * i.size) (n := n * i.size) hro (by omega)
                      have hroom := run_append_room_src (P := P) w t t' ty el i ht hi (m b).blk ((m b).off + o) len c' (a.eval x) n cs' hsrc (by omega)
                        (fun j hj => by have := t1 j (by rw [hsrc.newsLen] at hj; exact hj); rwa [← Nat.add_assoc] at this) (fun j hj => by have := t2 j (by rw [hsrc.newsLen] at hj; exact hj); rwa [← Nat.add_assoc] at this)
                      have hput := hb.put (o := o + len * i.size) (fl := blk.flat && fl) hro (by omega) hl
                      rw [← Nat.add_assoc] at hput
                      refine ⟨m, _, _, hrun.trans (run_v (by rw [hsv]; exact hroom)), .sl b o (len + n) cap c' hcap, set_done hb hro hput hro⟩
                · rw [hn] at hs
                  have hn : n = 0 := Nat.eq_of_beq_eq_true hn
                  subst hn
                  simp only [cond_true] at hs
                  cases hm : Nat.ble len cap
                  · rw [hm] at hs; cases hs
                  · rw [hm] at hs
                    have hm := Nat.le_of_ble_eq_true hm
                    cases hs
                    have h0 : cs' = [] := List.eq_nil_of_length_eq_zero (by rw [hsrc.newsLen]; simp)
                    subst h0
                    have hroom := run_append_room_src (P := P) w t t' ty el i ht hi (m b).blk ((m b).off + o) len c' (a.eval x) 0 [] hsrc (by omega) (fun j hj => by simp at hj) (fun j hj => by simp at hj)
                    refine .still (v' := .slice (some ⟨(m b).blk, (m b).off + o, none⟩) len c') (hrun.trans (run_v ?_)) (by rw [hes]; exact .sl b o len cap c' hcap)
                    rw [hsv]
                    simpa [World.setCells] using hroom
              · cases hs
            · cases hs
    | _ => rw [hk, ht] at hs; cases hs
  | _ => rw [hk] at hs; cases ht : P.underlying t <;> rw [ht] at hs <;> cases hs
end
end Go.Am
