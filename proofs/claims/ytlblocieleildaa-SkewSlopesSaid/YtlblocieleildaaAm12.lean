/- The two machines side by side: heaps, slots, what turns from step to step. -/
import Derived.Test.YtlblocieleildaaAm11
import Derived.LoopN
import Derived.Scope
import Derived.Tactics
set_option linter.unusedVariables false
set_option linter.unusedSimpArgs false
namespace Go.Am
open Go.RowKit

structure HRel (B : Nat) (w0 : World) (m : Mp) (G : Nat → Option Blk) (w : World) : Prop where
  below : Below B w0 w
  base : B ≤ w.heap.size
  blk : ∀ b x, G b = some x → BRel B m w b x
  inj : ∀ b b' x x', G b = some x → G b' = some x' → x.ro = false → x'.ro = false → (m b).blk = (m b').blk → b = b'
/-- what turns from one state to a later one -/
structure CEvo (p : Nat → Prop) (m m' : Mp) (G G' : Nat → Option Blk) (w w' : World) : Prop where
  keep : ∀ b, p b → m' b = m b
  size : w.heap.size ≤ w'.heap.size
  far : ∀ k, k < w.heap.size → (∀ b x, G b = some x → x.ro = false → (m b).blk ≠ k) → w'.heap[k]? = w.heap[k]?
  fresh : ∀ b x, G' b = some x → x.ro = false → ¬ p b → w.heap.size ≤ (m' b).blk ∨ ∃ b0 x0, G b0 = some x0 ∧ x0.ro = false ∧ (m' b).blk = (m b0).blk
  old : ∀ b x, p b → G' b = some x → ∃ x0, G b = some x0 ∧ x0.ro = x.ro
theorem CEvo.refl {p : Nat → Prop} {m : Mp} {G : Nat → Option Blk} {w : World} (hp : ∀ b x, G b = some x → p b) : CEvo p m m G G w w :=
  ⟨fun _ _ => rfl, Nat.le_refl _, fun _ _ _ => rfl, fun b x hb _ hn => absurd (hp b x hb) hn, fun b x _ hb => ⟨x, hb, rfl⟩⟩
theorem CEvo.trans {p q : Nat → Prop} {m m1 m2 : Mp} {G G1 G2 : Nat → Option Blk} {w w1 w2 : World} (a : CEvo p m m1 G G1 w w1) (b : CEvo q m1 m2 G1 G2 w1 w2) (hpq : ∀ x, p x → q x) : CEvo p m m2 G G2 w w2 := by
  have img : ∀ k, k < w.heap.size → (∀ b x, G b = some x → x.ro = false → (m b).blk ≠ k) → ∀ c x, G1 c = some x → x.ro = false → (m1 c).blk ≠ k := by
    intro k hk hne c x hc hro
    by_cases hcn : p c
    · obtain ⟨x0, hx0, hr⟩ := a.old c x hcn hc
      rw [a.keep c hcn]
      exact hne c x0 hx0 (by rw [hr]; exact hro)
    · rcases a.fresh c x hc hro hcn with hh | ⟨b0, x0, h1, h2, h3⟩
      · omega
      · rw [h3]; exact hne b0 x0 h1 h2
  refine ⟨fun c hc => (b.keep c (hpq c hc)).trans (a.keep c hc), Nat.le_trans a.size b.size, fun k hk hne => (b.far k (Nat.lt_of_lt_of_le hk a.size) (img k hk hne)).trans (a.far k hk hne), ?_, ?_⟩
  · intro c x hc hro hn
    by_cases h1n : q c
    · obtain ⟨x0, hx0, hr⟩ := b.old c x h1n hc
      rw [b.keep c h1n]
      exact a.fresh c x0 hx0 (by rw [hr]; exact hro) hn
    · rcases b.fresh c x hc hro h1n with hh | ⟨b0, x0, k1, k2, k3⟩
      · exact .inl (Nat.le_trans a.size hh)
      · rw [k3]
        by_cases hbn : p b0
        · obtain ⟨x1, hx1, hr⟩ := a.old b0 x0 hbn k1
          exact .inr ⟨b0, x1, hx1, by rw [hr]; exact k2, by rw [a.keep b0 hbn]⟩
        · exact a.fresh b0 x0 k1 k2 hbn
  · intro c x hc hx
    obtain ⟨x1, hx1, hr⟩ := b.old c x (hpq c hc) hx
    obtain ⟨x0, hx0, hr0⟩ := a.old c x1 hc hx1
    exact ⟨x0, hx0, hr0.trans hr⟩
theorem BRel.ro_lt {B : Nat} {m : Mp} {w : World} {b : Nat} {x : Blk} (h : BRel B m w b x) (hr : x.ro = true) : (m b).blk < B := by
  obtain ⟨_, _, _, _, _, _, _, hh⟩ := h
  rw [hr] at hh; exact hh
theorem BRel.own_ge {B : Nat} {m : Mp} {w : World} {b : Nat} {x : Blk} (h : BRel B m w b x) (hr : x.ro = false) : B ≤ (m b).blk := by
  obtain ⟨_, _, _, _, _, _, _, hh⟩ := h
  rw [hr] at hh; exact hh.1
def effG (G : Nat → Option Blk) (n : Nat) : Eff → Nat → Option Blk
  | .non => G
  | .new x => fun b => if b = n then some x else G b
  | .set c x => fun b => if b = c then some x else G b
  | .mv c x => fun b => if b = n then some x else if b = c then none else G b
theorem effG_heap (h : Heap) (f : Eff) : (h.eff f).get = effG h.get h.next f := by
  funext b
  cases f with
  | non => rfl
  | new x =>
    simp only [Heap.eff, effG]
    by_cases hb : b = h.next
    · subst hb; rw [Heap.get_alloc_same, if_pos rfl]
    · rw [Heap.get_alloc_ne h x hb, if_neg hb]
  | set c x =>
    simp only [Heap.eff, effG]
    by_cases hb : b = c
    · subst hb; rw [Heap.get_set_same, if_pos rfl]
    · rw [Heap.get_set_ne h x (Ne.symm hb), if_neg hb]
  | mv c x =>
    simp only [Heap.eff, effG]
    by_cases hb : b = h.next
    · subst hb
      rw [if_pos rfl]
      exact Heap.get_alloc_same (h.kill c) x
    · rw [Heap.get_alloc_ne _ x (by simpa [Heap.kill] using hb), if_neg hb]
      by_cases hc : b = c
      · subst hc; rw [Heap.get_kill_same, if_pos rfl]
      · rw [Heap.get_kill_ne h (Ne.symm hc), if_neg hc]
/-- the blocks that are written are there -/
def Live (G : Nat → Option Blk) : Eff → Prop
  | .set c _ | .mv c _ => ∃ y, G c = some y
  | _ => True
section
variable {B : Nat} {w0 : World} {m m' : Mp} {G : Nat → Option Blk} {h : Heap} {w w' : World} {f : Eff} {p : Nat → Prop}
theorem HRel.eff (hr : HRel B w0 m G w) (hG : ∀ b x, G b = some x → p b ∧ ∀ v ∈ x.cells, Sc p v) (hpn : f.isNew = true → ¬ p h.next) (hf : Live G f) (hd : Done B m m' h w w' f) :
    HRel B w0 m' (effG G h.next f) w' ∧ CEvo p m m' G (effG G h.next f) w w' := by
  have hkeep : ∀ b, p b → m' b = m b := by
    intro b hb
    cases hn : f.isNew
    · rw [hd.same hn]
    · exact hd.keep b fun hh => hpn hn (hh ▸ hb)
  have hsz : w.heap.size ≤ w'.heap.size := hd.below.size
  have hlive : ∀ b ∈ f.wr, ∃ y, G b = some y := by
    intro b hb
    cases f with
    | non => cases hb
    | new x => cases hb
    | set c x => simp [Eff.wr] at hb; subst hb; exact hf
    | mv c x => simp [Eff.wr] at hb; subst hb; exact hf
  have farE : ∀ k, k < w.heap.size → (∀ b x, G b = some x → x.ro = false → (m b).blk ≠ k) → w'.heap[k]? = w.heap[k]? := by
    intro k hk hne
    by_cases hc : ∀ b ∈ f.wr, (m b).blk ≠ k
    · exact hd.far k hk hc
    · have : ∃ b, b ∈ f.wr ∧ (m b).blk = k := by
        refine Classical.byContradiction fun hh => hc fun b hb he => hh ⟨b, hb, he⟩
      obtain ⟨b, hb, rfl⟩ := this
      obtain ⟨y, hy⟩ := hlive b hb
      cases hro : y.ro
      · exact absurd rfl (hne b y hy hro)
      · exact hd.below.block _ ((hr.blk b y hy).ro_lt hro)
  -- an old block that is not written is as it was
  have stays : ∀ b x, G b = some x → (∀ c ∈ f.wr, c ≠ b) → (∀ c ∈ f.wr, ∀ y, G c = some y → y.ro = false ∨ (m c).blk < B) → BRel B m' w' b x := by
    intro b x hb hne hown
    have hbr := hr.blk b x hb
    refine (hbr.world (w' := w') ?_).moved (p := p) hkeep (hkeep b (hG b x hb).1) (hG b x hb).2
    cases hro : x.ro
    · refine hd.far _ hbr.lt fun c hc he => ?_
      obtain ⟨y, hy⟩ := hlive c hc
      rcases hown c hc y hy with h1 | h1
      · exact hne c hc (hr.inj c b y x hy hb h1 hro he)
      · have := hbr.own_ge hro; omega
    · exact hd.below.block _ (hbr.ro_lt hro)
  have roOr : ∀ c y, G c = some y → y.ro = false ∨ (m c).blk < B := by
    intro c y hy
    cases hro : y.ro
    · exact .inl rfl
    · exact .inr ((hr.blk c y hy).ro_lt hro)
  have hnp : ∀ {b x}, f.isNew = true → G b = some x → b ≠ h.next := fun {b x} hn hb hh => hpn hn (hh ▸ (hG b x hb).1)
  cases f with
  | non =>
    refine ⟨⟨hr.below.trans hd.below, Nat.le_trans hr.base hsz, fun b x hb => stays b x hb (fun c hc => by cases hc) (fun c hc => by cases hc), fun b b' x x' hb hb' h1 h2 he => ?_⟩, ⟨hkeep, hsz, farE, fun b x hb _ hn => absurd (hG b x hb).1 hn, fun b x _ hb => ⟨x, hb, rfl⟩⟩⟩
    rw [hkeep b (hG b x hb).1, hkeep b' (hG b' x' hb').1] at he
    exact hr.inj b b' x x' hb hb' h1 h2 he
  | new y =>
    obtain ⟨k1, k2, k3⟩ := hd.eff
    have split : ∀ {b x}, effG G h.next (.new y) b = some x → (b = h.next ∧ x = y) ∨ (b ≠ h.next ∧ G b = some x) := by
      intro b x hb
      simp only [effG] at hb
      split at hb
      · cases hb; exact .inl ⟨by assumption, rfl⟩
      · exact .inr ⟨by assumption, hb⟩
    refine ⟨⟨hr.below.trans hd.below, Nat.le_trans hr.base hsz, fun b x hb => ?_, fun b b' x x' hb hb' h1 h2 he => ?_⟩, ⟨hkeep, hsz, farE, fun b x hb _ hn => ?_, fun b x hn hb => ?_⟩⟩
    · rcases split hb with ⟨rfl, rfl⟩ | ⟨hbn, hg⟩
      · exact k1
      · exact stays b x hg (fun c hc => by cases hc) (fun c hc => by cases hc)
    · rcases split hb with ⟨rfl, rfl⟩ | ⟨hbn, hg⟩ <;> rcases split hb' with ⟨rfl, rfl⟩ | ⟨hbn', hg'⟩
      · rfl
      · rw [hkeep b' (hG b' x' hg').1] at he
        have := (hr.blk b' x' hg').lt
        omega
      · rw [hkeep b (hG b x hg).1] at he
        have := (hr.blk b x hg).lt
        omega
      · rw [hkeep b (hG b x hg).1, hkeep b' (hG b' x' hg').1] at he
        exact hr.inj b b' x x' hg hg' h1 h2 he
    · rcases split hb with ⟨rfl, rfl⟩ | ⟨hbn, hg⟩
      · exact .inl k2
      · exact absurd (hG b x hg).1 hn
    · rcases split hb with ⟨rfl, rfl⟩ | ⟨hbn, hg⟩
      · exact absurd hn (hpn rfl)
      · exact ⟨x, hg, rfl⟩
  | set c y =>
    obtain ⟨k1, k2⟩ := hd.eff
    obtain ⟨y0, hy0⟩ := hf
    have hcB := k1.own_ge k2
    rw [hkeep c (hG c y0 hy0).1] at hcB
    have hy0r : y0.ro = false := by
      cases hro : y0.ro
      · rfl
      · have := (hr.blk c y0 hy0).ro_lt hro; omega
    have split : ∀ {b x}, effG G h.next (.set c y) b = some x → (b = c ∧ x = y) ∨ (b ≠ c ∧ G b = some x) := by
      intro b x hb
      simp only [effG] at hb
      split at hb
      · cases hb; exact .inl ⟨by assumption, rfl⟩
      · exact .inr ⟨by assumption, hb⟩
    have live : ∀ {b x}, effG G h.next (.set c y) b = some x → x.ro = false → ∃ x0, G b = some x0 ∧ x0.ro = false := by
      intro b x hb h1
      rcases split hb with ⟨rfl, rfl⟩ | ⟨hbn, hg⟩
      · exact ⟨y0, hy0, hy0r⟩
      · exact ⟨x, hg, h1⟩
    refine ⟨⟨hr.below.trans hd.below, Nat.le_trans hr.base hsz, fun b x hb => ?_, fun b b' x x' hb hb' h1 h2 he => ?_⟩, ⟨hkeep, hsz, farE, fun b x hb _ hn => ?_, fun b x hn hb => ?_⟩⟩
    · rcases split hb with ⟨rfl, rfl⟩ | ⟨hbn, hg⟩
      · exact k1
      · exact stays b x hg (fun d hd' => by simp [Eff.wr] at hd'; subst hd'; exact Ne.symm hbn) (fun d _ z hz => roOr d z hz)
    · obtain ⟨z, hz, hzr⟩ := live hb h1
      obtain ⟨z', hz', hzr'⟩ := live hb' h2
      rw [hkeep b (hG b z hz).1, hkeep b' (hG b' z' hz').1] at he
      exact hr.inj b b' z z' hz hz' hzr hzr' he
    · rcases split hb with ⟨rfl, rfl⟩ | ⟨hbn, hg⟩
      · exact absurd (hG _ y0 hy0).1 hn
      · exact absurd (hG b x hg).1 hn
    · rcases split hb with ⟨rfl, rfl⟩ | ⟨hbn, hg⟩
      · exact ⟨y0, hy0, hy0r.trans k2.symm⟩
      · exact ⟨x, hg, rfl⟩
  | mv c y =>
    obtain ⟨k1, k2, k3⟩ := hd.eff
    obtain ⟨y0, hy0⟩ := hf
    have hnB := k1.own_ge k3
    have split : ∀ {b x}, effG G h.next (.mv c y) b = some x → (b = h.next ∧ x = y) ∨ (b ≠ h.next ∧ b ≠ c ∧ G b = some x) := by
      intro b x hb
      simp only [effG] at hb
      split at hb
      · cases hb; exact .inl ⟨by assumption, rfl⟩
      · split at hb
        · cases hb
        · exact .inr ⟨by assumption, by assumption, hb⟩
    have y0r : (m' h.next).blk = (m c).blk → y0.ro = false := by
      intro he
      cases hro : y0.ro
      · rfl
      · have := (hr.blk c y0 hy0).ro_lt hro; omega
    have cross : ∀ {b x}, b ≠ c → G b = some x → x.ro = false → (m' h.next).blk ≠ (m' b).blk := by
      intro b x hbc hb hro he
      rw [hkeep b (hG b x hb).1] at he
      rcases k2 with k2 | k2
      · exact hbc (hr.inj c b y0 x hy0 hb (y0r k2) hro (k2.symm.trans he)).symm
      · have := (hr.blk b x hb).lt; omega
    refine ⟨⟨hr.below.trans hd.below, Nat.le_trans hr.base hsz, fun b x hb => ?_, fun b b' x x' hb hb' h1 h2 he => ?_⟩, ⟨hkeep, hsz, farE, fun b x hb _ hn => ?_, fun b x hn hb => ?_⟩⟩
    · rcases split hb with ⟨rfl, rfl⟩ | ⟨hbn, hbc, hg⟩
      · exact k1
      · exact stays b x hg (fun d hd' => by simp [Eff.wr] at hd'; subst hd'; exact Ne.symm hbc) (fun d _ z hz => roOr d z hz)
    · rcases split hb with ⟨rfl, rfl⟩ | ⟨hbn, hbc, hg⟩ <;> rcases split hb' with ⟨rfl, rfl⟩ | ⟨hbn', hbc', hg'⟩
      · rfl
      · exact absurd he (cross hbc' hg' h2)
      · exact absurd he.symm (cross hbc hg h1)
      · rw [hkeep b (hG b x hg).1, hkeep b' (hG b' x' hg').1] at he
        exact hr.inj b b' x x' hg hg' h1 h2 he
    · rcases split hb with ⟨rfl, rfl⟩ | ⟨hbn, hbc, hg⟩
      · rcases k2 with k2 | k2
        · exact .inr ⟨c, y0, hy0, y0r k2, k2⟩
        · exact .inl k2
      · exact absurd (hG b x hg).1 hn
    · rcases split hb with ⟨rfl, rfl⟩ | ⟨hbn, hbc, hg⟩
      · exact absurd hn (hpn rfl)
      · exact ⟨x, hg, rfl⟩
end
end Go.Am
