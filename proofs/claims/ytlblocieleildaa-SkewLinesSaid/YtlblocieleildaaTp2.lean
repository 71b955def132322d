/- The closed call awake, run by the kernel on the abstract machine. A law's argument, a list of gates, as the abstract machine sees it. What all laws use: the calls but for awake. -/
import Derived.Test.YtlblocieleildaaSk1
import Derived.Test.YtlblocieleildaaSk6
import Derived.Test.YtlblocieleildaaAm31
import Derived.Test.YtlblocieleildaaRows
import Derived.ProofKit
import Derived.Deep.Slices
import Derived.Carry
section
set_option maxRecDepth 100000
namespace Go.Proofs.Ytlblocieleildaa
open Go.Am
theorem awake_run : call Try.prog SkH 100000 11 [] heap0 = some (.bool true, heap0, true) := by kernel_rfl
end Go.Proofs.Ytlblocieleildaa
end
section
set_option linter.unusedSimpArgs false
set_option linter.unusedVariables false
set_option maxRecDepth 100000
namespace Go.Proofs.Ytlblocieleildaa
open Go.Am Go.ChangeShapes Go.WideShapes Go.ChangeAt Go.RowKit

theorem Try.own : ownKnob Try.prog.godebug = none := by kernel_rfl
theorem Try.laidOut : laidOutB Try.prog = true := by kernel_rfl
theorem ce43 : Try.prog.cellsOf 43 = 3 := by kernel_rfl
theorem ce3 : Try.prog.cellsOf 3 = 1 := by kernel_rfl
/-- the calls of the laws: awake is known -/
noncomputable def cfT : CallF := cfA Try.prog SkH 11
theorem cfT_wf : CfWf cfT := cfA_wf
theorem cfT_ok {B : Nat} {w0 : World} : CfOk Try.prog cfT B w0 := cfA_ok sk_ok awake_run
/-- a list of gates in the world, and its abstract block -/
structure GArg (W : World) (v0 : Value) (l : List Gt) (a : Option Addr) (c : Nat) (h : Heap) (m : Mp) : Prop where
  wf : HWf h
  rel : HRel W.heap.size W m h.get W
  val : VRel m (.slice a l.length c) v0
  sc : Sc (· < h.next) (.slice a l.length c)
  ga : GA h l a
  gr : ∀ b blk, h.get b = some blk → blk.grow = none
  cp : l.length ≤ c
instance : Inhabited Gt := ⟨⟨0, 0, 0⟩⟩
theorem gcells_flat : ∀ (l : List Gt) (v : Value), v ∈ gcells l → flatCell v = true
  | [], v, h => by cases h
  | g :: r, v, h => by
    simp only [gcells, List.mem_cons] at h
    rcases h with rfl | rfl | rfl | h
    · rfl
    · rfl
    · rfl
    · exact gcells_flat r v h
theorem gcells_get {l : List Gt} {j : Nat} (hj : j < l.length * 3) : ∃ i r, j = i * 3 + r ∧ i < l.length ∧ ((r = 0 ∧ (gcells l)[j]? = some (.int .i64 (gt l i).x)) ∨ (r = 1 ∧ (gcells l)[j]? = some (.int .i64 (gt l i).lo)) ∨ (r = 2 ∧ (gcells l)[j]? = some (.int .i64 (gt l i).hi))) := by
  have h0 := gcell0 (l := l) (ext := []) (i := j / 3) (by omega)
  have h1 := gcell1 (l := l) (ext := []) (i := j / 3) (by omega)
  have h2 := gcell2 (l := l) (ext := []) (i := j / 3) (by omega)
  rw [List.append_nil] at h0 h1 h2
  refine ⟨j / 3, j % 3, by omega, by omega, ?_⟩
  have : j % 3 = 0 ∨ j % 3 = 1 ∨ j % 3 = 2 := by omega
  rcases this with h | h | h
  · left; refine ⟨h, ?_⟩; rw [← h0]; congr 1; omega
  · right; left; refine ⟨h, ?_⟩; rw [← h1]; congr 1; omega
  · right; right; refine ⟨h, ?_⟩; rw [← h2]; congr 1; omega
theorem alloc0_get {x y : Blk} {b : Nat} (h : (heap0.alloc x).get b = some y) : b = 0 ∧ y = x := by
  by_cases hb : b = 0
  · subst hb; have := Heap.get_alloc_same heap0 x; rw [show heap0.next = 0 from rfl] at this; rw [this] at h; cases h; exact ⟨rfl, rfl⟩
  · rw [Heap.get_alloc_ne heap0 x hb, get_heap0] at h; cases h
theorem plain_flat {v : Value} (h : flatCell v = true) : Go.Am.plainCell v = true := by
  unfold flatCell at h
  split at h <;> first | rfl | (cases h; done) | (unfold Go.Am.plainCell; simp_all)
theorem one_block {W : World} {x : Blk} {loc : Go.Am.Loc} {cc : Array Value} {t : TypeId} {fr : Nat × Nat} (hro : x.ro = true) (hfl : x.flat = true) (hf : ∀ v ∈ x.cells, flatCell v = true) (hc : W.heap[loc.blk]? = some (.cells cc t fr)) (hg : loc.grow = x.grow) (hlim : loc.off + loc.lim = cc.size)
    (hlen : loc.off + x.cells.length ≤ cc.size) (hcell : ∀ j, j < x.cells.length → x.cells[j]? = cc[loc.off + j]?) : HWf (heap0.alloc x) ∧ HRel W.heap.size W (fun _ => loc) (heap0.alloc x).get W := by
  have hblt : loc.blk < W.heap.size := by
    rcases Nat.lt_or_ge loc.blk W.heap.size with h | h
    · exact h
    · rw [Array.getElem?_eq_none h] at hc; cases hc
  refine ⟨⟨fun b y h => ?_, fun b y h => ?_⟩, ⟨Below.refl _ _, Nat.le_refl _, fun b y h => ?_, fun b b' y y' h h' hy => ?_⟩⟩
  · obtain ⟨rfl, rfl⟩ := alloc0_get h; exact Nat.lt_succ_self _
  · obtain ⟨rfl, rfl⟩ := alloc0_get h
    exact ⟨fun v hv => Sc.flat v (hf v hv), List.all_eq_true.2 fun v hv => plain_flat (hf v hv), fun _ v hv => hf v hv⟩
  · obtain ⟨rfl, rfl⟩ := alloc0_get h
    refine ⟨cc, t, fr, hc, hg, hlim, ⟨?_, fun i v v' h1 h2 => ?_⟩, ?_⟩
    · unfold win; rw [List.length_take, List.length_drop, Array.length_toList]; dsimp only; omega
    · obtain ⟨h3, h4⟩ := win_get h2
      rw [hcell i h4, h3] at h1
      cases h1
      have h5 : y.cells[i]? = some v := (hcell i h4).trans h3
      exact .same v (hf v (List.mem_of_getElem? h5))
    · rw [hro]; exact hblt
  · obtain ⟨rfl, rfl⟩ := alloc0_get h
    rw [hro] at hy; cases hy
theorem open_gates {H : Type} {enc : TypeId × Value → H} {W : World} {base : Nat} {v0 : Value} {d0 : DataW H} {p0 : List MemPlace} (hok : Value.okWide Try.prog W .any base 22 v0) (h0 : DataW.Trod enc Try.prog W 0 (fun _ => true) true 22 v0 d0 p0) :
    ∃ l a c h m, GArg W v0 l a c h m := by
  obtain ⟨a0, len, cap, rfl⟩ := okWide_slice Try.underlying22 hok
  obtain ⟨fuel, hd⟩ := h0
  have hd' : DataW.trod enc Try.prog W 0 (fun _ => true) true fuel 22 [.slice a0 len cap] = some (d0, p0) := by simpa [Value.cells] using hd
  rcases Go.Deep.open_slice Try.underlying22 hd' with ⟨e, _⟩ | ⟨a, len', cap', m, n, D, Pl, e, hb, hl, hm, hmm, hx, hcell⟩
  · cases e
    exact ⟨[], none, 0, heap0, fun _ => ⟨0, 0, 0, none⟩, HWf.zero, ⟨Below.refl _ _, Nat.le_refl _, fun b x hb => none_heap0 hb, fun b b' x x' hb => none_heap0 hb⟩, .flat rfl, Sc.flat _ rfl, fun h => absurd rfl h, fun b x hb => none_heap0 hb, Nat.le_refl _⟩
  · cases e
    have hhas : W.has Try.prog .any base a 43 cap := by
      have := hok
      simp only [Value.okWide, Try.underlying22, Cell.okWide, Cell.ok] at this
      exact this.2.2
    obtain ⟨_, hspot, row, ncell, hshape, _⟩ := hhas
    obtain ⟨b, off, spot⟩ := a
    dsimp only at hspot hshape
    subst hspot
    obtain ⟨cc, t, fr, hheap⟩ : ∃ cc t fr, W.heap[b]? = some (.cells cc t fr) := by
      unfold World.shape? at hshape
      split at hshape
      · rename_i c e f hh; exact ⟨_, _, _, hh⟩
      · cases hshape
    have hm' : m = cap := by rw [hmm]; rfl
    have hlm : len ≤ m := by omega
    have cell_at : ∀ k, W.cell? ⟨b, k, none⟩ = cc[k]? := fun k => by unfold World.cell?; rw [hheap]; rfl
    have each : ∀ i, i < len → ∃ g : Gt, cc[off + (i * 3 + 0)]? = some (.int .i64 g.x) ∧ cc[off + (i * 3 + 1)]? = some (.int .i64 g.lo) ∧ cc[off + (i * 3 + 2)]? = some (.int .i64 g.hi) := by
      intro i hi
      obtain ⟨cs', k1, k2⟩ := hcell i (by omega)
      rw [ce43] at k1
      obtain ⟨_, hlen, hc⟩ := World.cells?_some k1
      obtain ⟨xs, k, hk, hxy, _, hxl, hf⟩ := DataW.trod_struct Try.underlying43 k2
      match cs', hlen with
      | [u0, u1, u2], _ =>
        have o0 : DataW.trod enc Try.prog W 0 (fun _ => true) true k 3 [u0] = xs[0]? := hf 0 _ rfl
        have o1 : DataW.trod enc Try.prog W 0 (fun _ => true) true k 3 [u1] = xs[1]? := hf 1 _ rfl
        have o2 : DataW.trod enc Try.prog W 0 (fun _ => true) true k 3 [u2] = xs[2]? := hf 2 _ rfl
        have hxl3 : xs.length = 3 := hxl
        rw [List.getElem?_eq_getElem (by omega)] at o0 o1 o2
        obtain ⟨n0, e0, _⟩ := DataW.trod_int Try.underlying3 o0
        obtain ⟨n1, e1, _⟩ := DataW.trod_int Try.underlying3 o1
        obtain ⟨n2, e2, _⟩ := DataW.trod_int Try.underlying3 o2
        cases e0; cases e1; cases e2
        have q0 := hc 0 (by omega)
        have q1 := hc 1 (by omega)
        have q2 := hc 2 (by omega)
        rw [Go.Deep.add_add] at q0 q1 q2
        have add_at : ∀ k, (⟨b, off, none⟩ : Addr).add k = ⟨b, off + k, none⟩ := fun k => by
          unfold Addr.add
          by_cases hk : k = 0
          · subst hk; rfl
          · rw [if_neg hk]
        rw [add_at, cell_at] at q0 q1 q2
        exact ⟨⟨n0, n1, n2⟩, q0, q1, q2⟩
    obtain ⟨g, hg⟩ := Go.Deep.choose_lt each
    generalize hL : (List.range len).map g = l
    have hll : l.length = len := by subst hL; simp
    have hgt : ∀ i, i < len → gt l i = g i := fun i hi => by
      subst hL; unfold gt; rw [List.getD_eq_getElem?_getD, List.getElem?_map, List.getElem?_range hi]; rfl
    by_cases hz : len = 0
    · obtain ⟨w1, w2⟩ := one_block (W := W) (x := ⟨[], true, true, none⟩) (loc := ⟨b, 0, cc.size, none⟩) rfl rfl (fun v hv => by cases hv) hheap rfl (Nat.zero_add _) (Nat.zero_le _) (fun j hj => by cases hj)
      refine ⟨[], some ⟨0, off, none⟩, cap, _, _, w1, w2, ?_, .sl 0 off 0 cap (Nat.lt_succ_self _), fun h => absurd rfl h, fun b y h => by obtain ⟨rfl, rfl⟩ := alloc0_get h; rfl, Nat.zero_le _⟩
      have := VRel.sl (m := fun _ => ⟨b, 0, cc.size, none⟩) 0 off 0 cap cap (.inl rfl)
      subst hz
      rwa [show (⟨b, 0, cc.size, none⟩ : Go.Am.Loc).off + off = off from Nat.zero_add _] at this
    · have hlast := (hg (len - 1) (by omega)).2.2
      have hsz : off + len * 3 ≤ cc.size := by
        have h1 : off + ((len - 1) * 3 + 2) < cc.size := by
          rcases Nat.lt_or_ge (off + ((len - 1) * 3 + 2)) cc.size with h | h
          · exact h
          · rw [Array.getElem?_eq_none h] at hlast; cases hlast
        omega
      obtain ⟨w1, w2⟩ := one_block (W := W) (x := ⟨gcells l, true, true, none⟩) (loc := ⟨b, off, cc.size - off, none⟩) rfl rfl (fun v hv => gcells_flat l v hv) hheap rfl (by dsimp only; omega) (by dsimp only; rw [gcells_len, hll]; exact hsz) (fun j hj => by
        dsimp only at hj ⊢
        rw [gcells_len] at hj
        obtain ⟨i, r, rfl, hi, h⟩ := gcells_get hj
        rw [hll] at hi
        obtain ⟨g0, g1, g2⟩ := hg i hi
        rw [hgt i hi] at h
        rcases h with ⟨rfl, h⟩ | ⟨rfl, h⟩ | ⟨rfl, h⟩
        · rw [h, g0]
        · rw [h, g1]
        · rw [h, g2])
      refine ⟨l, some ⟨0, 0, none⟩, cap, _, _, w1, w2, ?_, .sl 0 0 _ cap (Nat.lt_succ_self _), fun _ => ⟨0, _, [], rfl, Heap.get_alloc_same heap0 _, (List.append_nil _).symm, Nat.lt_succ_self _⟩, fun b y h => by obtain ⟨rfl, rfl⟩ := alloc0_get h; rfl, by omega⟩
      rw [hll]
      exact VRel.sl (m := fun _ => ⟨b, off, cc.size - off, none⟩) 0 0 len cap cap (.inl rfl)
end Go.Proofs.Ytlblocieleildaa
end
section
set_option linter.unusedVariables false
namespace Go.Proofs.Ytlblocieleildaa
open Go.Am
theorem cfT_ne {f : FuncId} (h : f ≠ 11) : cfT f = callW Try.prog SkH f := cfA_ne h
theorem cfT_at {h : Heap} : cfT 11 [] h = some (.bool true, h, true) := cfA_at
theorem bool_beq (b : Bool) : (b == b) = true := by cases b <;> rfl
attribute [go_sem] bool_beq
end Go.Proofs.Ytlblocieleildaa
end
