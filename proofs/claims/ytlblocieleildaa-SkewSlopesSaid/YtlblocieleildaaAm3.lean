/- How values of the abstract machine stand for values of the model. -/
import Derived.Test.YtlblocieleildaaAm2
set_option linter.unusedVariables false
namespace Go.Am

/-- where a block lies: the model's block, where in it, how many cells from there on, and whether slices of it may have more room than is known -/
structure Loc where
  blk : Nat
  off : Nat
  lim : Nat
  grow : Option Nat
abbrev Mp := Nat → Loc

inductive VRel (m : Mp) : Value → Value → Prop
  | any (v : Value) : VRel m (.chan (some 0)) v
  | same (v : Value) (h : flatCell v = true) : VRel m v v
  | ptr (b o : Nat) : VRel m (.pointer (some ⟨b, o, none⟩)) (.pointer (some ⟨(m b).blk, (m b).off + o, none⟩))
  | sl (b o n c c' : Nat) (hc : c' = c ∨ ∃ g, (m b).grow = some g ∧ c ≤ c' ∧ o + c' * g ≤ (m b).lim) : VRel m (.slice (some ⟨b, o, none⟩) n c) (.slice (some ⟨(m b).blk, (m b).off + o, none⟩) n c')
  | agg (xs ys : Array Value) (hs : ys.size = xs.size) (h : ∀ (i : Nat) (v v' : Value), xs[i]? = some v → ys[i]? = some v' → VRel m v v') : VRel m (.agg xs) (.agg ys)
  | tuple (xs ys : Array Value) (hs : ys.size = xs.size) (h : ∀ (i : Nat) (v v' : Value), xs[i]? = some v → ys[i]? = some v' → VRel m v v') : VRel m (.tuple xs) (.tuple ys)
  | iface (t : TypeId) (v v' : Value) (h : VRel m v v') : VRel m (.iface t v) (.iface t v')
  | func (fn : Fn) (xs xs' ys ys' : Array Value) (hs : xs'.size = xs.size) (h : ∀ (i : Nat) (v v' : Value), xs[i]? = some v → xs'[i]? = some v' → VRel m v v')
      (hs' : ys'.size = ys.size) (h' : ∀ (i : Nat) (v v' : Value), ys[i]? = some v → ys'[i]? = some v' → VRel m v v') : VRel m (.func fn xs ys) (.func fn xs' ys')

/-- all that it refers to is of p -/
inductive Sc (p : Nat → Prop) : Value → Prop
  | flat (v : Value) (h : flatCell v = true) : Sc p v
  | unk : Sc p (.chan (some 0))
  | ptr (b o : Nat) (h : p b) : Sc p (.pointer (some ⟨b, o, none⟩))
  | sl (b o l c : Nat) (h : p b) : Sc p (.slice (some ⟨b, o, none⟩) l c)
  | agg (xs : Array Value) (h : ∀ (i : Nat) (v : Value), xs[i]? = some v → Sc p v) : Sc p (.agg xs)
  | tuple (xs : Array Value) (h : ∀ (i : Nat) (v : Value), xs[i]? = some v → Sc p v) : Sc p (.tuple xs)
  | iface (t : TypeId) (v : Value) (h : Sc p v) : Sc p (.iface t v)
  | func (fn : Fn) (xs ys : Array Value) (h : ∀ (i : Nat) (v : Value), xs[i]? = some v → Sc p v) (h' : ∀ (i : Nat) (v : Value), ys[i]? = some v → Sc p v) : Sc p (.func fn xs ys)

theorem Sc.mono {p q : Nat → Prop} {v : Value} (h : Sc p v) (hn : ∀ b, p b → q b) : Sc q v := by
  induction h with
  | flat v h => exact .flat v h
  | unk => exact .unk
  | ptr b o h => exact .ptr b o (hn b h)
  | sl b o l c h => exact .sl b o l c (hn b h)
  | agg xs h ih => exact .agg xs ih
  | tuple xs h ih => exact .tuple xs ih
  | iface t v h ih => exact .iface t v ih
  | func fn xs ys h h' ih ih' => exact .func fn xs ys ih ih'

/-- the relation hangs on the blocks that are referred to, alone -/
theorem VRel.moved {m m' : Mp} {p : Nat → Prop} (he : ∀ b, p b → m' b = m b) {v v' : Value} (h : VRel m v v') : Sc p v → VRel m' v v' := by
  induction h with
  | any v => exact fun _ => .any v
  | same v h => exact fun _ => .same v h
  | ptr b o =>
    intro hs
    cases hs with
    | flat _ h => simp [flatCell] at h
    | ptr _ _ h => have := VRel.ptr (m := m') b o; rwa [he b h] at this
  | sl b o n' c c' hc =>
    intro hs
    cases hs with
    | flat _ h => simp [flatCell] at h
    | sl _ _ _ _ h => have := VRel.sl (m := m') b o n' c c' (by rw [he b h]; exact hc); rwa [he b h] at this
  | agg xs ys hs h ih =>
    intro hsc
    cases hsc with
    | flat _ h => simp [flatCell] at h
    | agg _ h' => exact .agg xs ys hs fun i v v' h1 h2 => ih i v v' h1 h2 (h' i v h1)
  | tuple xs ys hs h ih =>
    intro hsc
    cases hsc with
    | flat _ h => simp [flatCell] at h
    | tuple _ h' => exact .tuple xs ys hs fun i v v' h1 h2 => ih i v v' h1 h2 (h' i v h1)
  | iface t v v' h ih =>
    intro hsc
    cases hsc with
    | flat _ h => simp [flatCell] at h
    | iface _ _ h' => exact .iface t v v' (ih h')
  | func fn xs xs' ys ys' hs h hs' h' ih ih' =>
    intro hsc
    cases hsc with
    | flat _ h => simp [flatCell] at h
    | func _ _ _ k k' => exact .func fn xs xs' ys ys' hs (fun i v v' h1 h2 => ih i v v' h1 h2 (k i v h1)) hs' fun i v v' h1 h2 => ih' i v v' h1 h2 (k' i v h1)

theorem VRel.of_flatCell {m : Mp} {v v' : Value} (hf : flatCell v = true) (h : VRel m v v') : v' = v := by
  cases h with
  | same v h => rfl
  | any v => simp [flatCell] at hf
  | ptr b o => simp [flatCell] at hf
  | sl b o n c c' hc => simp [flatCell] at hf
  | agg xs ys hs h => simp [flatCell] at hf
  | tuple xs ys hs h => simp [flatCell] at hf
  | iface t v v' h => simp [flatCell] at hf
  | func fn xs xs' ys ys' hs h hs' h' => simp [flatCell] at hf
theorem arrays_same {m : Mp} {xs ys : Array Value} (hs : ys.size = xs.size) (h : ∀ (i : Nat) (v v' : Value), xs[i]? = some v → ys[i]? = some v' → VRel m v v') (hf : xs.toList.all flatCell = true) : ys = xs := by
  apply Array.ext hs
  intro i h1 h2
  have hx : flatCell xs[i] = true := by
    have := List.all_eq_true.1 hf xs[i] (by simp)
    exact this
  exact VRel.of_flatCell hx (h i _ _ (by simp [h2]) (by simp [h1]))
theorem flat_agg {cs : Array Value} (h : flat (.agg cs) = true) : cs.toList.all flatCell = true := h
theorem flat_tuple {cs : Array Value} (h : flat (.tuple cs) = true) : cs.toList.all flat1 = true := by
  have h' : (!cs.toList.isEmpty && cs.toList.all flat1) = true := h
  rw [Bool.and_eq_true] at h'
  exact h'.2
theorem mem_at {cs : Array Value} {i : Nat} {v : Value} (h : cs[i]? = some v) : v ∈ cs.toList := List.mem_of_getElem? (by rw [Array.getElem?_toList]; exact h)
theorem VRel.of_flat1 {m : Mp} {v v' : Value} (hf : flat1 v = true) (h : VRel m v v') : v' = v := by
  cases v with
  | agg ds =>
    cases h with
    | same _ h => rfl
    | agg _ zs hs h => rw [arrays_same hs h hf]
  | _ => exact VRel.of_flatCell hf h
theorem VRel.of_flat {m : Mp} {v v' : Value} (hf : flat v = true) (h : VRel m v v') : v' = v := by
  cases v with
  | tuple xs =>
    cases h with
    | same _ h => rfl
    | tuple _ ys hs h =>
      congr 1
      apply Array.ext hs
      intro i h1 h2
      exact VRel.of_flat1 (List.all_eq_true.1 (flat_tuple hf) xs[i] (by simp)) (h i _ _ (by simp [h2]) (by simp [h1]))
  | agg xs => exact VRel.of_flat1 (v := .agg xs) hf h
  | _ => exact VRel.of_flatCell hf h
theorem VRel.flat1 {m : Mp} {v : Value} (hf : Am.flat1 v = true) : VRel m v v := by
  cases v with
  | agg cs =>
    refine .agg cs cs rfl fun i v v' h1 h2 => ?_
    rw [h1] at h2; cases h2
    exact .same v (List.all_eq_true.1 (show cs.toList.all flatCell = true from hf) v (mem_at h1))
  | _ => exact .same _ hf
theorem VRel.flat {m : Mp} {v : Value} (hf : flat v = true) : VRel m v v := by
  cases v with
  | tuple cs =>
    refine .tuple cs cs rfl fun i v v' h1 h2 => ?_
    rw [h1] at h2; cases h2
    exact VRel.flat1 (List.all_eq_true.1 (flat_tuple hf) v (mem_at h1))
  | agg cs => exact VRel.flat1 (v := .agg cs) hf
  | _ => exact .same _ hf
theorem Sc.of_flat1 {p : Nat → Prop} {v : Value} (hf : Am.flat1 v = true) : Sc p v := by
  cases v with
  | agg cs => exact .agg cs fun i v h => .flat v (List.all_eq_true.1 (show cs.toList.all flatCell = true from hf) v (mem_at h))
  | _ => exact .flat _ hf
theorem Sc.of_flat {p : Nat → Prop} {v : Value} (hf : Am.flat v = true) : Sc p v := by
  cases v with
  | tuple cs => exact .tuple cs fun i v h => Sc.of_flat1 (List.all_eq_true.1 (flat_tuple hf) v (mem_at h))
  | agg cs => exact Sc.of_flat1 (v := .agg cs) hf
  | _ => exact .flat _ hf
theorem Sc.undef {p : Nat → Prop} : Sc p Go.undef := .tuple _ fun i v h => by simp at h

/-! ### Taking values apart -/
theorem VRel.asPtr {m : Mp} {v v' : Value} {b o : Nat} (h : VRel m v v') (hp : Am.asPtr v = some (b, o)) : v' = .pointer (some ⟨(m b).blk, (m b).off + o, none⟩) := by
  unfold Am.asPtr at hp
  split at hp
  · cases hp
    cases h with
    | same _ h => simp [flatCell] at h
    | ptr _ _ => rfl
  · cases hp
theorem VRel.asIK {m : Mp} {v v' : Value} {k : IntKind} {n : Int} (h : VRel m v v') (hp : Am.asIK v = some (k, n)) : v' = .int k n := by
  unfold Am.asIK at hp
  split at hp
  · cases hp; exact VRel.of_flatCell rfl h
  · cases hp
theorem VRel.asI {m : Mp} {v v' : Value} {n : Int} (h : VRel m v v') (hp : Am.asI v = some n) : ∃ k, v' = .int k n := by
  unfold Am.asI at hp
  split at hp
  · cases hp; exact ⟨_, VRel.of_flatCell rfl h⟩
  · cases hp
theorem VRel.asSl_nil {m : Mp} {v v' : Value} {n c : Nat} (h : VRel m v v') (hp : Am.asSl v = some (none, n, c)) : v' = .slice none n c := by
  unfold Am.asSl at hp
  split at hp
  · cases hp; exact VRel.of_flatCell rfl h
  · cases hp
  · cases hp
theorem VRel.sl_inv {m : Mp} {v' : Value} {b o n c : Nat} (h : VRel m (.slice (some ⟨b, o, none⟩) n c) v') :
    ∃ c', v' = .slice (some ⟨(m b).blk, (m b).off + o, none⟩) n c' ∧ (c' = c ∨ ∃ g, (m b).grow = some g ∧ c ≤ c' ∧ o + c' * g ≤ (m b).lim) := by
  cases h with
  | same _ h => simp [flatCell] at h
  | sl _ _ _ _ c' hc => exact ⟨c', rfl, hc⟩
theorem VRel.asSl {m : Mp} {v v' : Value} {b o n c : Nat} (h : VRel m v v') (hp : Am.asSl v = some (some (b, o), n, c)) :
    v = .slice (some ⟨b, o, none⟩) n c ∧ ∃ c', v' = .slice (some ⟨(m b).blk, (m b).off + o, none⟩) n c' ∧ (c' = c ∨ ∃ g, (m b).grow = some g ∧ c ≤ c' ∧ o + c' * g ≤ (m b).lim) := by
  unfold Am.asSl at hp
  split at hp
  · cases hp
  · cases hp; exact ⟨rfl, h.sl_inv⟩
  · cases hp
theorem VRel.bool {m : Mp} {v' : Value} {b : Bool} (h : VRel m (.bool b) v') : v' = .bool b := VRel.of_flatCell rfl h

/-! ### Cells of a value -/
/-- rows of cells that stand for one another -/
def LRel (m : Mp) (l l' : List Value) : Prop := l'.length = l.length ∧ ∀ (i : Nat) (v v' : Value), l[i]? = some v → l'[i]? = some v' → VRel m v v'
theorem LRel.get {m : Mp} {l l' : List Value} (h : LRel m l l') {i : Nat} {v : Value} (hi : l[i]? = some v) : ∃ v', l'[i]? = some v' ∧ VRel m v v' := by
  have hlt : i < l.length := by
    rcases Nat.lt_or_ge i l.length with hh | hh
    · exact hh
    · rw [List.getElem?_eq_none hh] at hi; cases hi
  have hlt' : i < l'.length := by rw [h.1]; exact hlt
  exact ⟨l'[i], by simp [hlt'], h.2 i v _ hi (by simp [hlt'])⟩
theorem LRel.nil {m : Mp} : LRel m [] [] := ⟨rfl, fun i v v' h => by simp at h⟩
theorem LRel.cons {m : Mp} {v v' : Value} {l l' : List Value} (hv : VRel m v v') (h : LRel m l l') : LRel m (v :: l) (v' :: l') := by
  refine ⟨by simp [h.1], fun i x x' h1 h2 => ?_⟩
  cases i with
  | zero => simp at h1 h2; subst h1; subst h2; exact hv
  | succ i => simp at h1 h2; exact h.2 i x x' h1 h2
theorem LRel.of_eq {m : Mp} {l l' : List Value} (h : LRel m l l') (hf : ∀ v ∈ l, flatCell v = true) : l' = l := by
  apply List.ext_getElem h.1
  intro i h1 h2
  exact VRel.of_flatCell (hf _ (List.getElem_mem h2)) (h.2 i _ _ (by simp [h2]) (by simp [h1]))
theorem LRel.append {m : Mp} {l l' r r' : List Value} (h : LRel m l l') (k : LRel m r r') : LRel m (l ++ r) (l' ++ r') := by
  refine ⟨by simp [h.1, k.1], fun i v v' h1 h2 => ?_⟩
  rw [List.getElem?_append] at h1 h2
  rw [h.1] at h2
  by_cases c : i < l.length
  · rw [if_pos c] at h1 h2; exact h.2 i v v' h1 h2
  · rw [if_neg c] at h1 h2; exact k.2 _ v v' h1 h2
theorem LRel.take {m : Mp} {l l' : List Value} (h : LRel m l l') (n : Nat) : LRel m (l.take n) (l'.take n) := by
  refine ⟨by simp [h.1], fun i v v' h1 h2 => ?_⟩
  rw [List.getElem?_take] at h1 h2
  by_cases c : i < n
  · rw [if_pos c] at h1 h2; exact h.2 i v v' h1 h2
  · rw [if_neg c] at h1; cases h1
theorem LRel.drop {m : Mp} {l l' : List Value} (h : LRel m l l') (n : Nat) : LRel m (l.drop n) (l'.drop n) := by
  refine ⟨by simp [h.1], fun i v v' h1 h2 => ?_⟩
  rw [List.getElem?_drop] at h1 h2
  exact h.2 _ v v' h1 h2
theorem LRel.moved {m m' : Mp} {p : Nat → Prop} (he : ∀ b, p b → m' b = m b) {l l' : List Value} (h : LRel m l l') (hs : ∀ v ∈ l, Sc p v) : LRel m' l l' :=
  ⟨h.1, fun i v v' h1 h2 => (h.2 i v v' h1 h2).moved he (hs v (List.mem_of_getElem? h1))⟩
theorem VRel.cells {m : Mp} {v v' : Value} (h : VRel m v v') (hp : v.cells.toList.all plainCell = true) : LRel m v.cells.toList v'.cells.toList := by
  cases v with
  | agg xs =>
    cases h with
    | same _ h => simp [flatCell] at h
    | agg _ ys hs h => exact ⟨by simpa [Value.cells] using hs, fun i v v' h1 h2 => h i v v' (by simpa [Value.cells] using h1) (by simpa [Value.cells] using h2)⟩
  | tuple xs => simp [Value.cells, plainCell] at hp
  | func fn xs ys =>
    cases h with
    | same _ h => simp [flatCell] at h
    | func _ _ _ _ _ hs h hs' h' => exact LRel.cons (.func _ _ _ _ _ hs h hs' h') .nil
  | iface t x =>
    cases h with
    | same _ h => simp [flatCell] at h
    | iface _ _ x' h => exact LRel.cons (.iface _ _ _ h) .nil
  | pointer a =>
    cases h with
    | same _ h => exact LRel.cons (.same _ h) .nil
    | ptr b o => exact LRel.cons (.ptr b o) .nil
  | slice a n c =>
    cases h with
    | same _ h => exact LRel.cons (.same _ h) .nil
    | sl b o n c c' hc => exact LRel.cons (.sl b o n c c' hc) .nil
  | chan r =>
    cases h with
    | same _ h => exact LRel.cons (.same _ h) .nil
    | any _ => cases hp
  | _ =>
    cases h with
    | same _ h => exact LRel.cons (.same _ h) .nil
theorem VRel.plain {m : Mp} {v v' : Value} (h : VRel m v v') (hp : plainCell v = true) : plainCell v' = true := by
  cases h <;> simp_all [plainCell]
theorem LRel.plain {m : Mp} {l l' : List Value} (h : LRel m l l') (hp : l.all plainCell = true) : l'.all plainCell = true := by
  rw [List.all_eq_true] at *
  intro v' hv
  obtain ⟨i, hi, he⟩ := List.getElem_of_mem hv
  have hl : i < l.length := by rw [← h.1]; exact hi
  exact (h.2 i l[i] v' (by simp [hl]) (by rw [← he]; simp [hi])).plain (hp _ (List.getElem_mem hl))
theorem VRel.of_agg {m : Mp} {xs : Array Value} {v' : Value} (h : VRel m (.agg xs) v') : ∃ ys, v' = .agg ys ∧ LRel m xs.toList ys.toList := by
  cases h with
  | same _ h => simp [flatCell] at h
  | agg _ ys hs h => exact ⟨ys, rfl, by simpa using hs, fun i v v' h1 h2 => h i v v' (by simpa using h1) (by simpa using h2)⟩
theorem VRel.mk_agg {m : Mp} {xs ys : Array Value} (h : LRel m xs.toList ys.toList) : VRel m (.agg xs) (.agg ys) :=
  .agg xs ys (by simpa using h.1) fun i v v' h1 h2 => h.2 i v v' (by simpa using h1) (by simpa using h2)
theorem VRel.mk_tuple {m : Mp} {xs ys : Array Value} (h : LRel m xs.toList ys.toList) : VRel m (.tuple xs) (.tuple ys) :=
  .tuple xs ys (by simpa using h.1) fun i v v' h1 h2 => h.2 i v v' (by simpa using h1) (by simpa using h2)
theorem Sc.of_agg {p : Nat → Prop} {xs : Array Value} (h : Sc p (.agg xs)) : ∀ v ∈ xs.toList, Sc p v := by
  cases h with
  | flat _ h => simp [flatCell] at h
  | agg _ h => exact fun v hv => by obtain ⟨i, hi, he⟩ := List.getElem_of_mem hv; exact h i v (by rw [← he]; simp at hi ⊢)
theorem Sc.mk_agg {p : Nat → Prop} {xs : Array Value} (h : ∀ v ∈ xs.toList, Sc p v) : Sc p (.agg xs) :=
  .agg xs fun i v hi => h v (List.mem_of_getElem? (by simpa using hi))
theorem Sc.mk_tuple {p : Nat → Prop} {xs : Array Value} (h : ∀ v ∈ xs.toList, Sc p v) : Sc p (.tuple xs) :=
  .tuple xs fun i v hi => h v (List.mem_of_getElem? (by simpa using hi))
theorem Sc.cells {p : Nat → Prop} {v : Value} (h : Sc p v) : ∀ x ∈ v.cells.toList, Sc p x := by
  cases v with
  | agg xs => exact h.of_agg
  | _ => intro x hx; simp [Value.cells] at hx; subst hx; exact h
theorem flat_cells {v : Value} (hf : flat v = true) (hp : v.cells.toList.all plainCell = true) : ∀ x ∈ v.cells.toList, flatCell x = true := by
  cases v with
  | agg xs => exact fun x hx => List.all_eq_true.1 (flat_agg hf) x hx
  | tuple xs => simp [Value.cells, plainCell] at hp
  | _ => intro x hx; simp [Value.cells] at hx; subst hx; exact hf
end Go.Am
