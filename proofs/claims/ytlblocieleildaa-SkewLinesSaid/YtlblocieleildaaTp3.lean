/- A law's argument of struct type with three lists of numbers, as the abstract machine sees it. -/
import Derived.Test.YtlblocieleildaaTp2
section
set_option linter.unusedSimpArgs false
set_option linter.unusedVariables false
set_option maxRecDepth 100000
namespace Go.Proofs.Ytlblocieleildaa
open Go.Am Go.ChangeShapes Go.WideShapes Go.ChangeAt Go.RowKit
/-- one more block of the caller's -/
theorem add_block {W : World} {h : Heap} {m : Mp} {x : Blk} {loc : Go.Am.Loc} {cc : Array Value} {t : TypeId} {fr : Nat × Nat} (wf : HWf h) (rel : HRel W.heap.size W m h.get W) (hro : x.ro = true) (hf : ∀ v ∈ x.cells, flatCell v = true)
    (hc : W.heap[loc.blk]? = some (.cells cc t fr)) (hg : loc.grow = x.grow) (hlim : loc.off + loc.lim = cc.size) (hlen : loc.off + x.cells.length ≤ cc.size) (hcell : ∀ j, j < x.cells.length → x.cells[j]? = cc[loc.off + j]?) :
    HWf (h.alloc x) ∧ HRel W.heap.size W (fun b => if b = h.next then loc else m b) (h.alloc x).get W := by
  have hblt : loc.blk < W.heap.size := by
    rcases Nat.lt_or_ge loc.blk W.heap.size with h | h
    · exact h
    · rw [Array.getElem?_eq_none h] at hc; cases hc
  have hm0 : ∀ b, b < h.next → (fun b => if b = h.next then loc else m b) b = m b := fun b hb => if_neg (by omega)
  have hn0 : (fun b => if b = h.next then loc else m b) h.next = loc := if_pos rfl
  generalize (fun b => if b = h.next then loc else m b) = m' at hm0 hn0 ⊢
  have hm : ∀ b, b < h.next → m' b = m b := hm0
  have hn : m' h.next = loc := hn0
  refine ⟨wf.alloc ⟨fun v hv => Sc.flat v (hf v hv), List.all_eq_true.2 fun v hv => plain_flat (hf v hv), fun _ v hv => hf v hv⟩, ⟨Below.refl _ _, Nat.le_refl _, fun b y hy => ?_, fun b b' y y' hy hy' h1 h2 h3 => ?_⟩⟩
  · by_cases hb : b = h.next
    · subst hb
      rw [Heap.get_alloc_same] at hy
      cases hy
      unfold BRel
      rw [hn]
      refine ⟨cc, t, fr, hc, hg, hlim, ⟨?_, fun i v v' h1 h2 => ?_⟩, ?_⟩
      · unfold win; rw [List.length_take, List.length_drop, Array.length_toList]; omega
      · obtain ⟨h3, h4⟩ := win_get h2
        rw [hcell i h4, h3] at h1
        cases h1
        have h5 : x.cells[i]? = some v := (hcell i h4).trans h3
        exact .same v (hf v (List.mem_of_getElem? h5))
      · rw [hro]; exact hblt
    · rw [Heap.get_alloc_ne h x hb] at hy
      have hlt := wf.lt b y hy
      obtain ⟨c1, t1, f1, k1, k2, k3, k4, k5⟩ := rel.blk b y hy
      unfold BRel
      rw [hm b hlt]
      exact ⟨c1, t1, f1, k1, k2, k3, LRel.moved (p := (· < h.next)) hm k4 (wf.ok b y hy).sc, k5⟩
  · have e : ∀ b y, (h.alloc x).get b = some y → y.ro = false → b < h.next ∧ h.get b = some y := fun b y hy h1 => by
      by_cases hb : b = h.next
      · subst hb; rw [Heap.get_alloc_same] at hy; cases hy; rw [hro] at h1; cases h1
      · rw [Heap.get_alloc_ne h x hb] at hy; exact ⟨wf.lt b y hy, hy⟩
    obtain ⟨l1, g1⟩ := e b y hy h1
    obtain ⟨l2, g2⟩ := e b' y' hy' h2
    rw [hm b l1, hm b' l2] at h3
    exact rel.inj b b' y y' g1 g2 h1 h2 h3
structure SliceIn (W : World) (h : Heap) (m : Mp) (v : Value) (xs : List Int) (a : Option Addr) (c : Nat) (h' : Heap) (m' : Mp) : Prop where
  wf : HWf h'
  rel : HRel W.heap.size W m' h'.get W
  grow : Grow h h'
  keep : ∀ b, b < h.next → m' b = m b
  val : VRel m' (.slice a xs.length c) v
  sc : Sc (· < h'.next) (.slice a xs.length c)
  ia : IA h' xs a
theorem icells_flat (xs : List Int) (v : Value) (h : v ∈ icells xs) : flatCell v = true := by
  unfold icells at h
  obtain ⟨x, _, rfl⟩ := List.mem_map.1 h
  rfl
theorem open_ints {H : Type} {enc : TypeId × Value → H} {W : World} {base : Nat} {h : Heap} {m : Mp} (wf : HWf h) (rel : HRel W.heap.size W m h.get W) {v0 : Value} {d0 : DataW H} {p0 : List MemPlace} (hok : Value.okWide Try.prog W .any base 32 v0) (h0 : DataW.Trod enc Try.prog W 0 (fun _ => true) true 32 v0 d0 p0) :
    ∃ xs a c h' m', SliceIn W h m v0 xs a c h' m' := by
  obtain ⟨a0, len, cap, rfl⟩ := okWide_slice Try.underlying32 hok
  obtain ⟨fuel, hd⟩ := h0
  have hd' : DataW.trod enc Try.prog W 0 (fun _ => true) true fuel 32 [.slice a0 len cap] = some (d0, p0) := by simpa [Value.cells] using hd
  rcases Go.Deep.open_slice Try.underlying32 hd' with ⟨e, _⟩ | ⟨a, len', cap', mm, n, D, Pl, e, hb, hl, hm, hmm, hx, hcell⟩
  · cases e
    exact ⟨[], none, 0, h, m, wf, rel, Grow.refl h, fun _ _ => rfl, .flat rfl, Sc.flat _ rfl, fun h => absurd rfl h⟩
  · cases e
    have hhas : W.has Try.prog .any base a 3 cap := by
      have := hok
      simp only [Value.okWide, Try.underlying32, Cell.okWide, Cell.ok] at this
      exact this.2.2
    obtain ⟨_, hspot, row, ncell, hshape, _⟩ := hhas
    obtain ⟨b, off, spot⟩ := a
    dsimp only at hspot hshape
    subst hspot
    obtain ⟨cc, t, fr, hheap⟩ : ∃ cc t fr, W.heap[b]? = some (.cells cc t fr) := by
      unfold World.shape? at hshape
      split at hshape
      · rename_i c e f hh; exact ⟨_, _, _, hh⟩
      · cases hshape
    have hm' : mm = cap := by rw [hmm]; rfl
    have cell_at : ∀ k, W.cell? ⟨b, k, none⟩ = cc[k]? := fun k => by unfold World.cell?; rw [hheap]; rfl
    have each : ∀ i, i < len → ∃ g : Int, cc[off + i]? = some (.int .i64 g) := by
      intro i hi
      obtain ⟨cs', k1, k2⟩ := hcell i (by omega)
      rw [ce3, Nat.mul_one] at k1
      obtain ⟨_, hlen, hc⟩ := World.cells?_some k1
      match cs', hlen with
      | [u0], _ =>
        obtain ⟨n0, e0, _⟩ := DataW.trod_int Try.underlying3 k2
        cases e0
        have q0 := hc 0 (by omega)
        rw [Go.Deep.add_add] at q0
        have add_at : ∀ k, (⟨b, off, none⟩ : Addr).add k = ⟨b, off + k, none⟩ := fun k => by
          unfold Addr.add
          by_cases hk : k = 0
          · subst hk; rfl
          · rw [if_neg hk]
        rw [add_at, cell_at] at q0
        exact ⟨n0, q0⟩
    obtain ⟨g, hg⟩ := Go.Deep.choose_lt each
    generalize hL : (List.range len).map g = xs
    have hll : xs.length = len := by subst hL; simp
    have hgt : ∀ i, i < len → nat xs i = g i := fun i hi => by
      subst hL; unfold nat; rw [List.getD_eq_getElem?_getD, List.getElem?_map, List.getElem?_range hi]; rfl
    have hnil : ∀ {α : Type} {z : α}, (h.next : Nat) = h.next → True := fun _ => trivial
    by_cases hz : len = 0
    · obtain ⟨w1, w2⟩ := add_block (W := W) (x := ⟨[], true, true, none⟩) (loc := ⟨b, 0, cc.size, none⟩) wf rel rfl (fun v hv => by cases hv) hheap rfl (Nat.zero_add _) (Nat.zero_le _) (fun j hj => by cases hj)
      refine ⟨[], some ⟨h.next, off, none⟩, cap, _, _, w1, w2, Grow.alloc h _, fun b' hb' => if_neg (by omega), ?_, .sl _ _ 0 cap (Nat.lt_succ_self _), fun h => absurd rfl h⟩
      have := VRel.sl (m := fun b' => if b' = h.next then (⟨b, 0, cc.size, none⟩ : Go.Am.Loc) else m b') h.next off 0 cap cap (.inl rfl)
      subst hz
      simp only [if_true, Nat.zero_add] at this
      exact this
    · have hlast := hg (len - 1) (by omega)
      have hsz : off + len ≤ cc.size := by
        have h1 : off + (len - 1) < cc.size := by
          rcases Nat.lt_or_ge (off + (len - 1)) cc.size with h | h
          · exact h
          · rw [Array.getElem?_eq_none h] at hlast; cases hlast
        omega
      have hil : (icells xs).length = len := by unfold icells; rw [List.length_map, hll]
      obtain ⟨w1, w2⟩ := add_block (W := W) (x := ⟨icells xs, true, true, none⟩) (loc := ⟨b, off, cc.size - off, none⟩) wf rel rfl (fun v hv => icells_flat xs v hv) hheap rfl (by dsimp only; omega) (by dsimp only; rw [hil]; exact hsz) (fun j hj => by
        dsimp only at hj ⊢
        rw [hil] at hj
        rw [icells_at xs j (by omega), hg j hj, hgt j hj])
      refine ⟨xs, some ⟨h.next, 0, none⟩, cap, _, _, w1, w2, Grow.alloc h _, fun b' hb' => if_neg (by omega), ?_, .sl _ _ _ cap (Nat.lt_succ_self _), fun _ => ⟨h.next, _, [], rfl, Heap.get_alloc_same h _, (List.append_nil _).symm, Nat.lt_succ_self _⟩⟩
      rw [hll]
      have := VRel.sl (m := fun b' => if b' = h.next then (⟨b, off, cc.size - off, none⟩ : Go.Am.Loc) else m b') h.next 0 len cap cap (.inl rfl)
      simp only [if_true, Nat.add_zero] at this
      exact this
theorem ia_grow {h h' : Heap} {xs : List Int} {a : Option Addr} (g : Grow h h') (i : IA h xs a) : IA h' xs a := fun hn => by
  obtain ⟨b, blk, ext, h1, h2, h3, h4⟩ := i hn
  exact ⟨b, blk, ext, h1, (g.get b h4).trans h2, h3, Nat.lt_of_lt_of_le h4 g.next⟩
structure LineIn (W : World) (v : Value) (A B : Int) (xs bs us : List Int) (ax ab aa : Option Addr) (cx cb ca : Nat) (h : Heap) (m : Mp) : Prop where
  wf : HWf h
  rel : HRel W.heap.size W m h.get W
  val : VRel m (.agg #[.int .i64 A, .int .i64 B, .slice ax xs.length cx, .slice ab bs.length cb, .slice aa us.length ca]) v
  sc : Sc (· < h.next) (.agg #[.int .i64 A, .int .i64 B, .slice ax xs.length cx, .slice ab bs.length cb, .slice aa us.length ca])
  ix : IA h xs ax
  ib : IA h bs ab
  iu : IA h us aa
theorem ct37 : Try.prog.cellTypes Try.prog.depth 37 = some [3, 3, 32, 32, 32] := by kernel_rfl
theorem ce37 : Try.prog.cellsOf 37 = 5 := by kernel_rfl
theorem array5 {α : Type} {a : Array α} (h : a.size = 5) : ∃ x y z u w, a = #[x, y, z, u, w] := by
  obtain ⟨l⟩ := a
  match l, h with
  | [x, y, z, u, w], _ => exact ⟨x, y, z, u, w, rfl⟩
theorem ok_slice {W : World} {base : Nat} {v : Value} (h : Cell.okWide Try.prog W .any base 32 v) : Value.okWide Try.prog W .any base 32 v := by
  unfold Value.okWide
  rw [Try.underlying32]
  exact h
theorem lrel_two {m : Mp} {l l' : List Value} (h : LRel m l l') : LRel m l l' := h
theorem open_line {H : Type} {enc : TypeId × Value → H} {W : World} {base : Nat} {v0 : Value} {d0 : DataW H} {p0 : List MemPlace} (hok : Value.okWide Try.prog W .any base 37 v0) (h0 : DataW.Trod enc Try.prog W 0 (fun _ => true) true 37 v0 d0 p0) :
    ∃ A B xs bs us ax ab aa cx cb ca h m, LineIn W v0 A B xs bs us ax ab aa cx cb ca h m := by
  obtain ⟨cs, rfl, hsz⟩ := okWide_struct Try.underlying37 hok
  have hrow : Row.okWide Try.prog W .any base 37 cs := by
    unfold Value.okWide at hok
    rw [Try.underlying37] at hok
    obtain ⟨cs', e, _, hr⟩ := hok
    cases e
    exact hr
  obtain ⟨u0, u1, u2, u3, u4, rfl⟩ := array5 (hsz.trans ce37)
  obtain ⟨ts, hts, _, hcell⟩ := hrow
  rw [ct37] at hts
  cases hts
  have o2 : Value.okWide Try.prog W .any base 32 u2 := by
    obtain ⟨u, e, h⟩ := hcell 2 u2 rfl
    cases e
    exact ok_slice h
  have o3 : Value.okWide Try.prog W .any base 32 u3 := by
    obtain ⟨u, e, h⟩ := hcell 3 u3 rfl
    cases e
    exact ok_slice h
  have o4 : Value.okWide Try.prog W .any base 32 u4 := by
    obtain ⟨u, e, h⟩ := hcell 4 u4 rfl
    cases e
    exact ok_slice h
  obtain ⟨fuel, hf⟩ := h0
  have hf' : DataW.trod enc Try.prog W 0 (fun _ => true) true fuel 37 [u0, u1, u2, u3, u4] = some (d0, p0) := by simpa [Value.cells] using hf
  obtain ⟨xs, k, hk, hxy, _, hxl, hfs⟩ := DataW.trod_struct Try.underlying37 hf'
  have hxl5 : xs.length = 5 := hxl
  have y0 : DataW.trod enc Try.prog W 0 (fun _ => true) true k 3 [u0] = xs[0]? := hfs 0 _ rfl
  have y1 : DataW.trod enc Try.prog W 0 (fun _ => true) true k 3 [u1] = xs[1]? := hfs 1 _ rfl
  have y2 : DataW.trod enc Try.prog W 0 (fun _ => true) true k 32 [u2] = xs[2]? := hfs 2 _ rfl
  have y3 : DataW.trod enc Try.prog W 0 (fun _ => true) true k 32 [u3] = xs[3]? := hfs 3 _ rfl
  have y4 : DataW.trod enc Try.prog W 0 (fun _ => true) true k 32 [u4] = xs[4]? := hfs 4 _ rfl
  rw [List.getElem?_eq_getElem (by omega)] at y0 y1 y2 y3 y4
  obtain ⟨n0, e0, _⟩ := DataW.trod_int Try.underlying3 y0
  obtain ⟨n1, e1, _⟩ := DataW.trod_int Try.underlying3 y1
  cases e0; cases e1
  have sl : ∀ {u : Value} {x : DataW H × List MemPlace}, Value.okWide Try.prog W .any base 32 u → DataW.trod enc Try.prog W 0 (fun _ => true) true k 32 [u] = some x → DataW.Trod enc Try.prog W 0 (fun _ => true) true 32 u x.1 x.2 := fun {u x} ho hy => by
    obtain ⟨a, n, c, rfl⟩ := okWide_slice Try.underlying32 ho
    exact ⟨k, by simpa [Value.cells] using hy⟩
  have wf0 : HWf heap0 := HWf.zero
  have rel0 : HRel W.heap.size W (fun _ => ⟨0, 0, 0, none⟩) heap0.get W := ⟨Below.refl _ _, Nat.le_refl _, fun b x hb => none_heap0 hb, fun b b' x x' hb => none_heap0 hb⟩
  obtain ⟨xs1, a1, c1, h1, m1, s1⟩ := open_ints wf0 rel0 o2 (sl o2 y2)
  obtain ⟨xs2, a2, c2, h2, m2, s2⟩ := open_ints s1.wf s1.rel o3 (sl o3 y3)
  obtain ⟨xs3, a3, c3, h3, m3, s3⟩ := open_ints s2.wf s2.rel o4 (sl o4 y4)
  have v2 : VRel m3 (.slice a2 xs2.length c2) u3 := VRel.moved s3.keep s2.val s2.sc
  have c2' := s2.sc.mono fun b hb => Nat.lt_of_lt_of_le hb s3.grow.next
  have v1 : VRel m3 (.slice a1 xs1.length c1) u2 := VRel.moved s3.keep (VRel.moved s2.keep s1.val s1.sc) (s1.sc.mono fun b hb => Nat.lt_of_lt_of_le hb s2.grow.next)
  have c1' := s1.sc.mono fun b hb => Nat.lt_of_lt_of_le hb (s2.grow.trans s3.grow).next
  refine ⟨n0, n1, xs1, xs2, xs3, a1, a2, a3, c1, c2, c3, h3, m3, s3.wf, s3.rel, ?_, ?_, ia_grow (s2.grow.trans s3.grow) s1.ia, ia_grow s3.grow s2.ia, s3.ia⟩
  · exact VRel.mk_agg (LRel.cons (.flat rfl) (LRel.cons (.flat rfl) (LRel.cons v1 (LRel.cons v2 (LRel.cons s3.val LRel.nil)))))
  · refine Sc.mk_agg fun v hv => ?_
    simp only [List.mem_cons, List.not_mem_nil, or_false] at hv
    rcases hv with rfl | rfl | rfl | rfl | rfl
    · exact Sc.flat _ rfl
    · exact Sc.flat _ rfl
    · exact c1'
    · exact c2'
    · exact s3.sc
end Go.Proofs.Ytlblocieleildaa
end
