/- The abstract machine's maps: what is put is got, what is not put is as it was. How values of the abstract machine stand for values of the model. How blocks of the abstract machine stand for blocks of the model; what an operation does to both: the operations that touch no memory. What the operations do in both machines: the operations that touch no memory. What the operations do in both machines: arithmetic, comparisons, parts, cuts. What the operations do in both machines: cuts of slices, new memory, loads, stores. What the operations do in both machines: slices made, loads, stores, append, calls; all operations together. What the operations do in both machines: append, calls; all operations together. All operations together: what the abstract machine does, the model does. What the abstract machine keeps of its own heap. What the abstract machine keeps of its own heap. The two machines side by side: heaps, slots, what turns from step to step. -/
import Derived.Test.YtlnjhllfacmkoaaGreatAm1
import Derived.Below
import Derived.Deep.AppendSrc
import Derived.Laws.MakeOwn
import Derived.Laws.BytesArg
import Derived.Laws.Tables
import Derived.IntWalk
import Derived.LoopN
import Derived.Scope
import Derived.Tactics
section
namespace Go.Am

theorem Tr.atW_nil {α : Type} (t : Tr α) : Tr.atW [] t = t.val := rfl
theorem Tr.atW_cons {α : Type} (b : Bool) (p : List Bool) (t : Tr α) : Tr.atW (b :: p) t = Tr.atW p (if b then t.left else t.right) := by cases b <;> rfl
theorem Tr.putW_nil {α : Type} (x : Option α) (t : Tr α) : Tr.putW x [] t = .node x t.left t.right := rfl
theorem Tr.putW_cons {α : Type} (x : Option α) (b : Bool) (p : List Bool) (t : Tr α) : Tr.putW x (b :: p) t = if b then .node t.val (Tr.putW x p t.left) t.right else .node t.val t.left (Tr.putW x p t.right) := by cases b <;> rfl
theorem Tr.at_put_same {α : Type} (x : Option α) : ∀ (p : List Bool) (t : Tr α), Tr.atW p (Tr.putW x p t) = x
  | [], _ => rfl
  | b :: p, t => by rw [putW_cons, atW_cons]; cases b <;> simp [Tr.left, Tr.right, at_put_same x p]
theorem Tr.at_put_ne {α : Type} (x : Option α) : ∀ (p q : List Bool) (t : Tr α), p ≠ q → Tr.atW q (Tr.putW x p t) = Tr.atW q t
  | [], [], _, h => absurd rfl h
  | [], b :: q, t, _ => by rw [putW_nil, atW_cons, atW_cons]; rfl
  | b :: p, [], t, _ => by rw [putW_cons, atW_nil, atW_nil]; cases b <;> rfl
  | b :: p, c :: q, t, h => by
    rw [putW_cons, atW_cons, atW_cons]
    by_cases e : b = c
    · subst e
      have h' : p ≠ q := fun hh => h (by rw [hh])
      cases b <;> simp [Tr.left, Tr.right, at_put_ne x p q _ h']
    · cases b <;> cases c <;> simp_all [Tr.left, Tr.right]
def code : List Bool → Nat
  | [] => 0
  | b :: p => 2 * code p + if b then 1 else 2
theorem code_way : ∀ (f k : Nat), k ≤ f → code (way f k) = k
  | 0, k, h => by simp [way, code]; omega
  | f + 1, 0, _ => rfl
  | f + 1, k + 1, h => by
    have e : way (f + 1) (k + 1) = (Nat.beq (Nat.mod (k + 1) 2) 1) :: way f (k / 2) := rfl
    rw [e, code, code_way f (k / 2) (by omega)]
    by_cases c : (k + 1) % 2 = 1
    · have : Nat.beq (Nat.mod (k + 1) 2) 1 = true := by rw [Nat.beq_eq]; exact c
      rw [this]; simp; omega
    · have : Nat.beq (Nat.mod (k + 1) 2) 1 = false := by
        cases hh : Nat.beq (Nat.mod (k + 1) 2) 1
        · rfl
        · rw [Nat.beq_eq] at hh; exact absurd hh c
      rw [this]; simp; omega
theorem way_inj {k j : Nat} (h : way k k = way j j) : k = j := by
  rw [← code_way k k (Nat.le_refl k), h, code_way j j (Nat.le_refl j)]
theorem Tr.get_put_same {α : Type} (x : Option α) (k : Nat) (t : Tr α) : Tr.getF k (Tr.putF x k t) = x := at_put_same _ _ _
theorem Tr.get_put_ne {α : Type} (x : Option α) {k j : Nat} (t : Tr α) (h : k ≠ j) : Tr.getF j (Tr.putF x k t) = Tr.getF j t := at_put_ne _ _ _ _ fun e => h (way_inj e)
theorem Tr.get_leaf {α : Type} (k : Nat) : Tr.getF k (Tr.leaf : Tr α) = none := by
  unfold getF
  generalize way k k = p
  induction p with
  | nil => rfl
  | cons b p ih => rw [atW_cons]; cases b <;> simpa [Tr.left, Tr.right] using ih

theorem Env.get_set_same (e : Env) (t : Tmp) (v : Value) : (Env.set e t v).get t = v := by simp [Env.get, Env.set, Tr.get_put_same]
theorem Env.get_set_ne (e : Env) {t u : Tmp} (v : Value) (h : t ≠ u) : (Env.set e t v).get u = Env.get e u := by simp [Env.get, Env.set, Tr.get_put_ne _ _ h]
theorem Env.get_set (e : Env) (t u : Tmp) (v : Value) : (Env.set e t v).get u = if t = u then v else Env.get e u := by
  by_cases h : t = u
  · subst h; simp [Env.get_set_same]
  · simp [Env.get_set_ne e v h, h]
theorem Env.put_none (e : Env) (v : Value) : e.put none v = e := rfl
theorem Env.put_some (e : Env) (t : Tmp) (v : Value) : e.put (some t) v = e.set t v := rfl

theorem Heap.get_alloc_same (h : Heap) (x : Blk) : (h.alloc x).get h.next = some x := by simp [Heap.get, Heap.alloc, Tr.get_put_same]
theorem Heap.get_alloc_ne (h : Heap) (x : Blk) {b : Nat} (hb : b ≠ h.next) : (h.alloc x).get b = h.get b := by simp [Heap.get, Heap.alloc, Tr.get_put_ne _ _ (Ne.symm hb)]
theorem Heap.get_set_same (h : Heap) (b : Nat) (x : Blk) : (h.set b x).get b = some x := by simp [Heap.get, Heap.set, Tr.get_put_same]
theorem Heap.get_set_ne (h : Heap) (x : Blk) {b c : Nat} (hb : b ≠ c) : (h.set b x).get c = h.get c := by simp [Heap.get, Heap.set, Tr.get_put_ne _ _ hb]
theorem Heap.get_kill_same (h : Heap) (b : Nat) : (h.kill b).get b = none := by simp [Heap.get, Heap.kill, Tr.get_put_same]
theorem Heap.get_kill_ne (h : Heap) {b c : Nat} (hb : b ≠ c) : (h.kill b).get c = h.get c := by simp [Heap.get, Heap.kill, Tr.get_put_ne _ _ hb]
theorem Heap.next_alloc (h : Heap) (x : Blk) : (h.alloc x).next = h.next + 1 := rfl
theorem Heap.next_set (h : Heap) (b : Nat) (x : Blk) : (h.set b x).next = h.next := rfl
theorem Heap.next_kill (h : Heap) (b : Nat) : (h.kill b).next = h.next := rfl
theorem Heap.wr_alloc (h : Heap) (x : Blk) : (h.alloc x).wr = h.wr := rfl
theorem Heap.wr_set (h : Heap) (b : Nat) (x : Blk) : (h.set b x).wr = if b < h.wr then b else h.wr := rfl
theorem Heap.wr_kill (h : Heap) (b : Nat) : (h.kill b).wr = if b < h.wr then b else h.wr := rfl
end Go.Am
end
section
set_option linter.unusedVariables false
namespace Go.Am

/-- where a block lies: the model's block, where in it, how many cells from there on, and whether slices of it may have more room than is known -/
structure Loc where
  blk : Nat
  off : Nat
  lim : Nat
  grow : Option Nat
abbrev Mp := Nat → Loc

inductive VRel (m : Mp) : Value → Value → Prop
  | any (v : Value) : VRel m (.chan (some 0)) v
  | same (v : Value) (h : flatCell v = true) : VRel m v v
  | ptr (b o : Nat) : VRel m (.pointer (some ⟨b, o, none⟩)) (.pointer (some ⟨(m b).blk, (m b).off + o, none⟩))
  | sl (b o n c c' : Nat) (hc : c' = c ∨ ∃ g, (m b).grow = some g ∧ c ≤ c' ∧ o + c' * g ≤ (m b).lim) : VRel m (.slice (some ⟨b, o, none⟩) n c) (.slice (some ⟨(m b).blk, (m b).off + o, none⟩) n c')
  | agg (xs ys : Array Value) (hs : ys.size = xs.size) (h : ∀ (i : Nat) (v v' : Value), xs[i]? = some v → ys[i]? = some v' → VRel m v v') : VRel m (.agg xs) (.agg ys)
  | tuple (xs ys : Array Value) (hs : ys.size = xs.size) (h : ∀ (i : Nat) (v v' : Value), xs[i]? = some v → ys[i]? = some v' → VRel m v v') : VRel m (.tuple xs) (.tuple ys)
  | iface (t : TypeId) (v v' : Value) (h : VRel m v v') : VRel m (.iface t v) (.iface t v')
  | func (fn : Fn) (xs xs' ys ys' : Array Value) (hs : xs'.size = xs.size) (h : ∀ (i : Nat) (v v' : Value), xs[i]? = some v → xs'[i]? = some v' → VRel m v v')
      (hs' : ys'.size = ys.size) (h' : ∀ (i : Nat) (v v' : Value), ys[i]? = some v → ys'[i]? = some v' → VRel m v v') : VRel m (.func fn xs ys) (.func fn xs' ys')

/-- all that it refers to is of p -/
inductive Sc (p : Nat → Prop) : Value → Prop
  | flat (v : Value) (h : flatCell v = true) : Sc p v
  | unk : Sc p (.chan (some 0))
  | ptr (b o : Nat) (h : p b) : Sc p (.pointer (some ⟨b, o, none⟩))
  | sl (b o l c : Nat) (h : p b) : Sc p (.slice (some ⟨b, o, none⟩) l c)
  | agg (xs : Array Value) (h : ∀ (i : Nat) (v : Value), xs[i]? = some v → Sc p v) : Sc p (.agg xs)
  | tuple (xs : Array Value) (h : ∀ (i : Nat) (v : Value), xs[i]? = some v → Sc p v) : Sc p (.tuple xs)
  | iface (t : TypeId) (v : Value) (h : Sc p v) : Sc p (.iface t v)
  | func (fn : Fn) (xs ys : Array Value) (h : ∀ (i : Nat) (v : Value), xs[i]? = some v → Sc p v) (h' : ∀ (i : Nat) (v : Value), ys[i]? = some v → Sc p v) : Sc p (.func fn xs ys)

theorem Sc.mono {p q : Nat → Prop} {v : Value} (h : Sc p v) (hn : ∀ b, p b → q b) : Sc q v := by
  induction h with
  | flat v h => exact .flat v h
  | unk => exact .unk
  | ptr b o h => exact .ptr b o (hn b h)
  | sl b o l c h => exact .sl b o l c (hn b h)
  | agg xs h ih => exact .agg xs ih
  | tuple xs h ih => exact .tuple xs ih
  | iface t v h ih => exact .iface t v ih
  | func fn xs ys h h' ih ih' => exact .func fn xs ys ih ih'

/-- the relation hangs on the blocks that are referred to, alone -/
theorem VRel.moved {m m' : Mp} {p : Nat → Prop} (he : ∀ b, p b → m' b = m b) {v v' : Value} (h : VRel m v v') : Sc p v → VRel m' v v' := by
  induction h with
  | any v => exact fun _ => .any v
  | same v h => exact fun _ => .same v h
  | ptr b o =>
    intro hs
    cases hs with
    | flat _ h => simp [flatCell] at h
    | ptr _ _ h => have := VRel.ptr (m := m') b o; rwa [he b h] at this
  | sl b o n' c c' hc =>
    intro hs
    cases hs with
    | flat _ h => simp [flatCell] at h
    | sl _ _ _ _ h => have := VRel.sl (m := m') b o n' c c' (by rw [he b h]; exact hc); rwa [he b h] at this
  | agg xs ys hs h ih =>
    intro hsc
    cases hsc with
    | flat _ h => simp [flatCell] at h
    | agg _ h' => exact .agg xs ys hs fun i v v' h1 h2 => ih i v v' h1 h2 (h' i v h1)
  | tuple xs ys hs h ih =>
    intro hsc
    cases hsc with
    | flat _ h => simp [flatCell] at h
    | tuple _ h' => exact .tuple xs ys hs fun i v v' h1 h2 => ih i v v' h1 h2 (h' i v h1)
  | iface t v v' h ih =>
    intro hsc
    cases hsc with
    | flat _ h => simp [flatCell] at h
    | iface _ _ h' => exact .iface t v v' (ih h')
  | func fn xs xs' ys ys' hs h hs' h' ih ih' =>
    intro hsc
    cases hsc with
    | flat _ h => simp [flatCell] at h
    | func _ _ _ k k' => exact .func fn xs xs' ys ys' hs (fun i v v' h1 h2 => ih i v v' h1 h2 (k i v h1)) hs' fun i v v' h1 h2 => ih' i v v' h1 h2 (k' i v h1)

theorem VRel.of_flatCell {m : Mp} {v v' : Value} (hf : flatCell v = true) (h : VRel m v v') : v' = v := by
  cases h with
  | same v h => rfl
  | any v => simp [flatCell] at hf
  | ptr b o => simp [flatCell] at hf
  | sl b o n c c' hc => simp [flatCell] at hf
  | agg xs ys hs h => simp [flatCell] at hf
  | tuple xs ys hs h => simp [flatCell] at hf
  | iface t v v' h => simp [flatCell] at hf
  | func fn xs xs' ys ys' hs h hs' h' => simp [flatCell] at hf
theorem arrays_same {m : Mp} {xs ys : Array Value} (hs : ys.size = xs.size) (h : ∀ (i : Nat) (v v' : Value), xs[i]? = some v → ys[i]? = some v' → VRel m v v') (hf : xs.toList.all flatCell = true) : ys = xs := by
  apply Array.ext hs
  intro i h1 h2
  have hx : flatCell xs[i] = true := by
    have := List.all_eq_true.1 hf xs[i] (by simp)
    exact this
  exact VRel.of_flatCell hx (h i _ _ (by simp [h2]) (by simp [h1]))
theorem flat_agg {cs : Array Value} (h : flat (.agg cs) = true) : cs.toList.all flatCell = true := h
theorem flat_tuple {cs : Array Value} (h : flat (.tuple cs) = true) : cs.toList.all flat1 = true := by
  have h' : (!cs.toList.isEmpty && cs.toList.all flat1) = true := h
  rw [Bool.and_eq_true] at h'
  exact h'.2
theorem mem_at {cs : Array Value} {i : Nat} {v : Value} (h : cs[i]? = some v) : v ∈ cs.toList := List.mem_of_getElem? (by rw [Array.getElem?_toList]; exact h)
theorem VRel.of_flat1 {m : Mp} {v v' : Value} (hf : flat1 v = true) (h : VRel m v v') : v' = v := by
  cases v with
  | agg ds =>
    cases h with
    | same _ h => rfl
    | agg _ zs hs h => rw [arrays_same hs h hf]
  | _ => exact VRel.of_flatCell hf h
theorem VRel.of_flat {m : Mp} {v v' : Value} (hf : flat v = true) (h : VRel m v v') : v' = v := by
  cases v with
  | tuple xs =>
    cases h with
    | same _ h => rfl
    | tuple _ ys hs h =>
      congr 1
      apply Array.ext hs
      intro i h1 h2
      exact VRel.of_flat1 (List.all_eq_true.1 (flat_tuple hf) xs[i] (by simp)) (h i _ _ (by simp [h2]) (by simp [h1]))
  | agg xs => exact VRel.of_flat1 (v := .agg xs) hf h
  | _ => exact VRel.of_flatCell hf h
theorem VRel.flat1 {m : Mp} {v : Value} (hf : Am.flat1 v = true) : VRel m v v := by
  cases v with
  | agg cs =>
    refine .agg cs cs rfl fun i v v' h1 h2 => ?_
    rw [h1] at h2; cases h2
    exact .same v (List.all_eq_true.1 (show cs.toList.all flatCell = true from hf) v (mem_at h1))
  | _ => exact .same _ hf
theorem VRel.flat {m : Mp} {v : Value} (hf : flat v = true) : VRel m v v := by
  cases v with
  | tuple cs =>
    refine .tuple cs cs rfl fun i v v' h1 h2 => ?_
    rw [h1] at h2; cases h2
    exact VRel.flat1 (List.all_eq_true.1 (flat_tuple hf) v (mem_at h1))
  | agg cs => exact VRel.flat1 (v := .agg cs) hf
  | _ => exact .same _ hf
theorem Sc.of_flat1 {p : Nat → Prop} {v : Value} (hf : Am.flat1 v = true) : Sc p v := by
  cases v with
  | agg cs => exact .agg cs fun i v h => .flat v (List.all_eq_true.1 (show cs.toList.all flatCell = true from hf) v (mem_at h))
  | _ => exact .flat _ hf
theorem Sc.of_flat {p : Nat → Prop} {v : Value} (hf : Am.flat v = true) : Sc p v := by
  cases v with
  | tuple cs => exact .tuple cs fun i v h => Sc.of_flat1 (List.all_eq_true.1 (flat_tuple hf) v (mem_at h))
  | agg cs => exact Sc.of_flat1 (v := .agg cs) hf
  | _ => exact .flat _ hf
theorem Sc.undef {p : Nat → Prop} : Sc p Go.undef := .tuple _ fun i v h => by simp at h

/-! ### Taking values apart -/
theorem VRel.asPtr {m : Mp} {v v' : Value} {b o : Nat} (h : VRel m v v') (hp : Am.asPtr v = some (b, o)) : v' = .pointer (some ⟨(m b).blk, (m b).off + o, none⟩) := by
  unfold Am.asPtr at hp
  split at hp
  · cases hp
    cases h with
    | same _ h => simp [flatCell] at h
    | ptr _ _ => rfl
  · cases hp
theorem VRel.asIK {m : Mp} {v v' : Value} {k : IntKind} {n : Int} (h : VRel m v v') (hp : Am.asIK v = some (k, n)) : v' = .int k n := by
  unfold Am.asIK at hp
  split at hp
  · cases hp; exact VRel.of_flatCell rfl h
  · cases hp
theorem VRel.asI {m : Mp} {v v' : Value} {n : Int} (h : VRel m v v') (hp : Am.asI v = some n) : ∃ k, v' = .int k n := by
  unfold Am.asI at hp
  split at hp
  · cases hp; exact ⟨_, VRel.of_flatCell rfl h⟩
  · cases hp
theorem VRel.asSl_nil {m : Mp} {v v' : Value} {n c : Nat} (h : VRel m v v') (hp : Am.asSl v = some (none, n, c)) : v' = .slice none n c := by
  unfold Am.asSl at hp
  split at hp
  · cases hp; exact VRel.of_flatCell rfl h
  · cases hp
  · cases hp
theorem VRel.sl_inv {m : Mp} {v' : Value} {b o n c : Nat} (h : VRel m (.slice (some ⟨b, o, none⟩) n c) v') :
    ∃ c', v' = .slice (some ⟨(m b).blk, (m b).off + o, none⟩) n c' ∧ (c' = c ∨ ∃ g, (m b).grow = some g ∧ c ≤ c' ∧ o + c' * g ≤ (m b).lim) := by
  cases h with
  | same _ h => simp [flatCell] at h
  | sl _ _ _ _ c' hc => exact ⟨c', rfl, hc⟩
theorem VRel.asSl {m : Mp} {v v' : Value} {b o n c : Nat} (h : VRel m v v') (hp : Am.asSl v = some (some (b, o), n, c)) :
    v = .slice (some ⟨b, o, none⟩) n c ∧ ∃ c', v' = .slice (some ⟨(m b).blk, (m b).off + o, none⟩) n c' ∧ (c' = c ∨ ∃ g, (m b).grow = some g ∧ c ≤ c' ∧ o + c' * g ≤ (m b).lim) := by
  unfold Am.asSl at hp
  split at hp
  · cases hp
  · cases hp; exact ⟨rfl, h.sl_inv⟩
  · cases hp
theorem VRel.bool {m : Mp} {v' : Value} {b : Bool} (h : VRel m (.bool b) v') : v' = .bool b := VRel.of_flatCell rfl h

/-! ### Cells of a value -/
/-- rows of cells that stand for one another -/
def LRel (m : Mp) (l l' : List Value) : Prop := l'.length = l.length ∧ ∀ (i : Nat) (v v' : Value), l[i]? = some v → l'[i]? = some v' → VRel m v v'
theorem LRel.get {m : Mp} {l l' : List Value} (h : LRel m l l') {i : Nat} {v : Value} (hi : l[i]? = some v) : ∃ v', l'[i]? = some v' ∧ VRel m v v' := by
  have hlt : i < l.length := by
    rcases Nat.lt_or_ge i l.length with hh | hh
    · exact hh
    · rw [List.getElem?_eq_none hh] at hi; cases hi
  have hlt' : i < l'.length := by rw [h.1]; exact hlt
  exact ⟨l'[i], by simp [hlt'], h.2 i v _ hi (by simp [hlt'])⟩
theorem LRel.nil {m : Mp} : LRel m [] [] := ⟨rfl, fun i v v' h => by simp at h⟩
theorem LRel.cons {m : Mp} {v v' : Value} {l l' : List Value} (hv : VRel m v v') (h : LRel m l l') : LRel m (v :: l) (v' :: l') := by
  refine ⟨by simp [h.1], fun i x x' h1 h2 => ?_⟩
  cases i with
  | zero => simp at h1 h2; subst h1; subst h2; exact hv
  | succ i => simp at h1 h2; exact h.2 i x x' h1 h2
theorem LRel.of_eq {m : Mp} {l l' : List Value} (h : LRel m l l') (hf : ∀ v ∈ l, flatCell v = true) : l' = l := by
  apply List.ext_getElem h.1
  intro i h1 h2
  exact VRel.of_flatCell (hf _ (List.getElem_mem h2)) (h.2 i _ _ (by simp [h2]) (by simp [h1]))
theorem LRel.append {m : Mp} {l l' r r' : List Value} (h : LRel m l l') (k : LRel m r r') : LRel m (l ++ r) (l' ++ r') := by
  refine ⟨by simp [h.1, k.1], fun i v v' h1 h2 => ?_⟩
  rw [List.getElem?_append] at h1 h2
  rw [h.1] at h2
  by_cases c : i < l.length
  · rw [if_pos c] at h1 h2; exact h.2 i v v' h1 h2
  · rw [if_neg c] at h1 h2; exact k.2 _ v v' h1 h2
theorem LRel.take {m : Mp} {l l' : List Value} (h : LRel m l l') (n : Nat) : LRel m (l.take n) (l'.take n) := by
  refine ⟨by simp [h.1], fun i v v' h1 h2 => ?_⟩
  rw [List.getElem?_take] at h1 h2
  by_cases c : i < n
  · rw [if_pos c] at h1 h2; exact h.2 i v v' h1 h2
  · rw [if_neg c] at h1; cases h1
theorem LRel.drop {m : Mp} {l l' : List Value} (h : LRel m l l') (n : Nat) : LRel m (l.drop n) (l'.drop n) := by
  refine ⟨by simp [h.1], fun i v v' h1 h2 => ?_⟩
  rw [List.getElem?_drop] at h1 h2
  exact h.2 _ v v' h1 h2
theorem LRel.moved {m m' : Mp} {p : Nat → Prop} (he : ∀ b, p b → m' b = m b) {l l' : List Value} (h : LRel m l l') (hs : ∀ v ∈ l, Sc p v) : LRel m' l l' :=
  ⟨h.1, fun i v v' h1 h2 => (h.2 i v v' h1 h2).moved he (hs v (List.mem_of_getElem? h1))⟩
theorem VRel.cells {m : Mp} {v v' : Value} (h : VRel m v v') (hp : v.cells.toList.all plainCell = true) : LRel m v.cells.toList v'.cells.toList := by
  cases v with
  | agg xs =>
    cases h with
    | same _ h => simp [flatCell] at h
    | agg _ ys hs h => exact ⟨by simpa [Value.cells] using hs, fun i v v' h1 h2 => h i v v' (by simpa [Value.cells] using h1) (by simpa [Value.cells] using h2)⟩
  | tuple xs => simp [Value.cells, plainCell] at hp
  | func fn xs ys =>
    cases h with
    | same _ h => simp [flatCell] at h
    | func _ _ _ _ _ hs h hs' h' => exact LRel.cons (.func _ _ _ _ _ hs h hs' h') .nil
  | iface t x =>
    cases h with
    | same _ h => simp [flatCell] at h
    | iface _ _ x' h => exact LRel.cons (.iface _ _ _ h) .nil
  | pointer a =>
    cases h with
    | same _ h => exact LRel.cons (.same _ h) .nil
    | ptr b o => exact LRel.cons (.ptr b o) .nil
  | slice a n c =>
    cases h with
    | same _ h => exact LRel.cons (.same _ h) .nil
    | sl b o n c c' hc => exact LRel.cons (.sl b o n c c' hc) .nil
  | chan r =>
    cases h with
    | same _ h => exact LRel.cons (.same _ h) .nil
    | any _ => cases hp
  | _ =>
    cases h with
    | same _ h => exact LRel.cons (.same _ h) .nil
theorem VRel.plain {m : Mp} {v v' : Value} (h : VRel m v v') (hp : plainCell v = true) : plainCell v' = true := by
  cases h <;> simp_all [plainCell]
theorem LRel.plain {m : Mp} {l l' : List Value} (h : LRel m l l') (hp : l.all plainCell = true) : l'.all plainCell = true := by
  rw [List.all_eq_true] at *
  intro v' hv
  obtain ⟨i, hi, he⟩ := List.getElem_of_mem hv
  have hl : i < l.length := by rw [← h.1]; exact hi
  exact (h.2 i l[i] v' (by simp [hl]) (by rw [← he]; simp [hi])).plain (hp _ (List.getElem_mem hl))
theorem VRel.of_agg {m : Mp} {xs : Array Value} {v' : Value} (h : VRel m (.agg xs) v') : ∃ ys, v' = .agg ys ∧ LRel m xs.toList ys.toList := by
  cases h with
  | same _ h => simp [flatCell] at h
  | agg _ ys hs h => exact ⟨ys, rfl, by simpa using hs, fun i v v' h1 h2 => h i v v' (by simpa using h1) (by simpa using h2)⟩
theorem VRel.mk_agg {m : Mp} {xs ys : Array Value} (h : LRel m xs.toList ys.toList) : VRel m (.agg xs) (.agg ys) :=
  .agg xs ys (by simpa using h.1) fun i v v' h1 h2 => h.2 i v v' (by simpa using h1) (by simpa using h2)
theorem VRel.mk_tuple {m : Mp} {xs ys : Array Value} (h : LRel m xs.toList ys.toList) : VRel m (.tuple xs) (.tuple ys) :=
  .tuple xs ys (by simpa using h.1) fun i v v' h1 h2 => h.2 i v v' (by simpa using h1) (by simpa using h2)
theorem Sc.of_agg {p : Nat → Prop} {xs : Array Value} (h : Sc p (.agg xs)) : ∀ v ∈ xs.toList, Sc p v := by
  cases h with
  | flat _ h => simp [flatCell] at h
  | agg _ h => exact fun v hv => by obtain ⟨i, hi, he⟩ := List.getElem_of_mem hv; exact h i v (by rw [← he]; simp at hi ⊢)
theorem Sc.mk_agg {p : Nat → Prop} {xs : Array Value} (h : ∀ v ∈ xs.toList, Sc p v) : Sc p (.agg xs) :=
  .agg xs fun i v hi => h v (List.mem_of_getElem? (by simpa using hi))
theorem Sc.mk_tuple {p : Nat → Prop} {xs : Array Value} (h : ∀ v ∈ xs.toList, Sc p v) : Sc p (.tuple xs) :=
  .tuple xs fun i v hi => h v (List.mem_of_getElem? (by simpa using hi))
theorem Sc.cells {p : Nat → Prop} {v : Value} (h : Sc p v) : ∀ x ∈ v.cells.toList, Sc p x := by
  cases v with
  | agg xs => exact h.of_agg
  | _ => intro x hx; simp [Value.cells] at hx; subst hx; exact h
theorem flat_cells {v : Value} (hf : flat v = true) (hp : v.cells.toList.all plainCell = true) : ∀ x ∈ v.cells.toList, flatCell x = true := by
  cases v with
  | agg xs => exact fun x hx => List.all_eq_true.1 (flat_agg hf) x hx
  | tuple xs => simp [Value.cells, plainCell] at hp
  | _ => intro x hx; simp [Value.cells] at hx; subst hx; exact hf
end Go.Am
end
section
set_option linter.unusedVariables false
set_option linter.unusedSimpArgs false
namespace Go.Am
open Go.RowKit

/-- a window on a row of cells -/
def win (c : Array Value) (off n : Nat) : List Value := (c.toList.drop off).take n
theorem win_get {c : Array Value} {off n i : Nat} {v : Value} (h : (win c off n)[i]? = some v) : c[off + i]? = some v ∧ i < n := by
  unfold win at h
  rw [List.getElem?_take] at h
  by_cases hi : i < n
  · rw [if_pos hi, List.getElem?_drop, Array.getElem?_toList] at h
    exact ⟨h, hi⟩
  · rw [if_neg hi] at h; cases h
/-- block b in the world -/
def BRel (B : Nat) (m : Mp) (w : World) (b : Nat) (x : Blk) : Prop :=
  ∃ c t fr, w.heap[(m b).blk]? = some (.cells c t fr) ∧ (m b).grow = x.grow ∧ (m b).off + (m b).lim = c.size ∧ LRel m x.cells (win c (m b).off x.cells.length) ∧
    (if x.ro then (m b).blk < B else B ≤ (m b).blk ∧ fr = (0, 0))
theorem BRel.world {B : Nat} {m : Mp} {w w' : World} {b : Nat} {x : Blk} (h : BRel B m w b x) (hw : w'.heap[(m b).blk]? = w.heap[(m b).blk]?) : BRel B m w' b x := by
  obtain ⟨c, t, fr, h1, h2⟩ := h
  exact ⟨c, t, fr, hw.trans h1, h2⟩
theorem BRel.lt {B : Nat} {m : Mp} {w : World} {b : Nat} {x : Blk} (h : BRel B m w b x) : (m b).blk < w.heap.size := by
  obtain ⟨c, t, fr, h1, h2⟩ := h
  rcases Nat.lt_or_ge (m b).blk w.heap.size with hh | hh
  · exact hh
  · rw [Array.getElem?_eq_none hh] at h1; cases h1
theorem BRel.moved {B : Nat} {m m' : Mp} {p : Nat → Prop} {w : World} {b : Nat} {x : Blk} (h : BRel B m w b x) (he : ∀ b, p b → m' b = m b) (hb : m' b = m b) (hs : ∀ v ∈ x.cells, Sc p v) : BRel B m' w b x := by
  obtain ⟨c, t, fr, h1, h2, h3, h4, h5⟩ := h
  refine ⟨c, t, fr, ?_, ?_, ?_, ?_, ?_⟩
  · rw [hb]; exact h1
  · rw [hb]; exact h2
  · rw [hb]; exact h3
  · rw [hb]; exact h4.moved he hs
  · rw [hb]; exact h5
theorem add_lit (b o n : Nat) : Addr.add ⟨b, o, none⟩ n = ⟨b, o + n, none⟩ := Addr.add_lit b o n
theorem BRel.cell {B : Nat} {m : Mp} {w : World} {b o : Nat} {x : Blk} {v : Value} (h : BRel B m w b x) (hv : x.cells[o]? = some v) : ∃ v', w.cell? ⟨(m b).blk, (m b).off + o, none⟩ = some v' ∧ VRel m v v' := by
  obtain ⟨c, t, fr, h1, h2, h3, h4, h5⟩ := h
  obtain ⟨v', hv', hr⟩ := h4.get hv
  exact ⟨v', by simp [World.cell?, h1, (win_get hv').1], hr⟩
theorem cut_some {l cs : List Value} {o n : Nat} (h : cut l o n = some cs) : o + n ≤ l.length ∧ cs = (l.drop o).take n := by
  unfold cut at h
  cases hc : Nat.ble (o + n) l.length
  · rw [hc] at h; cases h
  · rw [hc] at h; cases h; exact ⟨Nat.le_of_ble_eq_true hc, rfl⟩
theorem cut_len {l cs : List Value} {o n : Nat} (h : cut l o n = some cs) : cs.length = n := by
  obtain ⟨h1, rfl⟩ := cut_some h
  simp; omega
theorem BRel.read {B : Nat} {m : Mp} {w : World} {b o n : Nat} {x : Blk} {cs : List Value} (h : BRel B m w b x) (hc : cut x.cells o n = some cs) :
    ∃ cs', LRel m cs cs' ∧ cs'.length = n ∧ ∀ j v, cs'[j]? = some v → w.cell? (Addr.add ⟨(m b).blk, (m b).off + o, none⟩ j) = some v := by
  obtain ⟨c, t, fr, h1, h2, h3, h4, h5⟩ := h
  obtain ⟨hl, rfl⟩ := cut_some hc
  refine ⟨_, (h4.drop o).take n, ?_, fun j v hj => ?_⟩
  · have := h4.1; simp [this]; omega
  · rw [List.getElem?_take] at hj
    by_cases hn : j < n
    · rw [if_pos hn, List.getElem?_drop] at hj
      rw [add_lit]
      simp [World.cell?, h1, Nat.add_assoc, (win_get hj).1]
    · rw [if_neg hn] at hj; cases hj

/-! ### Stores -/
theorem setCell_at {w : World} {b o : Nat} {c : Array Value} {t : TypeId} {fr : Nat × Nat} (h : w.heap[b]? = some (.cells c t fr)) (v : Value) : (w.setCell ⟨b, o, none⟩ v).heap[b]? = some (.cells (c.setIfInBounds o v) t fr) := by
  simp only [World.setCell, Array.getElem?_modify, if_true, h]
  rfl
theorem setCell_far {w : World} {b o k : Nat} (hk : k ≠ b) (v : Value) : (w.setCell ⟨b, o, none⟩ v).heap[k]? = w.heap[k]? := by
  simp only [World.setCell, Array.getElem?_modify]
  rw [if_neg (fun e => hk e.symm)]
theorem setCells_far {b : Nat} : ∀ (vs : List Value) (o : Nat) (w : World) {k : Nat}, k ≠ b → (w.setCells b o vs).heap[k]? = w.heap[k]?
  | [], _, _, _, _ => rfl
  | v :: r, o, w, k, hk => by rw [World.setCells, setCells_far r (o + 1) _ hk, setCell_far hk]
theorem setCells_same {b : Nat} : ∀ (vs : List Value) (o : Nat) (w : World), (w.setCells b o vs).os = w.os ∧ (w.setCells b o vs).tape = w.tape ∧ (w.setCells b o vs).output = w.output ∧ (w.setCells b o vs).heap.size = w.heap.size
  | [], _, _ => ⟨rfl, rfl, rfl, rfl⟩
  | v :: r, o, w => by
    obtain ⟨h1, h2, h3, h4⟩ := setCells_same (b := b) r (o + 1) (w.setCell ⟨b, o, none⟩ v)
    exact ⟨h1, h2, h3, h4.trans (by simp [World.setCell])⟩
theorem setCells_at {b : Nat} {t : TypeId} {fr : Nat × Nat} : ∀ (vs : List Value) (o : Nat) (w : World) (c : Array Value), w.heap[b]? = some (.cells c t fr) → o + vs.length ≤ c.size →
    ∃ c', (w.setCells b o vs).heap[b]? = some (.cells c' t fr) ∧ c'.toList = c.toList.take o ++ vs ++ c.toList.drop (o + vs.length)
  | [], o, w, c, h, hl => ⟨c, h, by simp⟩
  | v :: r, o, w, c, h, hl => by
    simp only [List.length_cons] at hl
    obtain ⟨c', h1, h2⟩ := setCells_at r (o + 1) (w.setCell ⟨b, o, none⟩ v) (c.setIfInBounds o v) (setCell_at h v) (by simp; omega)
    refine ⟨c', h1, h2.trans ?_⟩
    simp only [Array.toList_setIfInBounds, List.length_cons]
    have hlt : o < c.toList.length := by simp; omega
    have e1 : List.take (o + 1) (c.toList.set o v) = c.toList.take o ++ [v] := by
      rw [List.take_add_one, List.take_set_of_le (Nat.le_refl o), List.getElem?_set_self hlt]
      rfl
    have e2 : List.drop (o + 1 + r.length) (c.toList.set o v) = c.toList.drop (o + (r.length + 1)) := by
      rw [List.drop_set_of_lt (by omega)]
      congr 1; omega
    rw [e1, e2]
    simp
theorem putAll_len {l vs : List Value} {o : Nat} (h : o + vs.length ≤ l.length) : (putAll l o vs).length = l.length := by
  simp [putAll]; omega
theorem LRel.put {m : Mp} {l l' vs vs' : List Value} (h : LRel m l l') (k : LRel m vs vs') (o : Nat) : LRel m (putAll l o vs) (putAll l' o vs') := by
  unfold putAll
  rw [k.1]
  exact ((h.take o).append k).append (h.drop _)
theorem win_put {c c' : Array Value} {off n o : Nat} {vs : List Value} (hc : c'.toList = c.toList.take (off + o) ++ vs ++ c.toList.drop (off + o + vs.length)) (hn : off + n ≤ c.size) (ho : o + vs.length ≤ n) :
    win c' off n = putAll (win c off n) o vs := by
  have hsz : c.toList.length = c.size := by simp
  have h1 : (c.toList.take (off + o)).drop off = (c.toList.drop off).take o := by rw [List.drop_take, Nat.add_sub_cancel_left]
  unfold win putAll
  rw [hc, List.append_assoc, List.drop_append, h1]
  have hlen : (c.toList.take (off + o)).length = off + o := by rw [List.length_take]; omega
  rw [hlen, show off - (off + o) = 0 by omega, List.drop_zero]
  have hl2 : ((c.toList.drop off).take o).length = o := by simp; omega
  rw [List.take_append, hl2, List.take_of_length_le (by omega), List.take_append, List.take_of_length_le (by omega : vs.length ≤ n - o)]
  rw [List.take_take, Nat.min_eq_left (by omega), List.append_assoc]
  congr 2
  rw [List.drop_take, List.drop_drop]
  congr 1
  · omega
  · congr 1; omega
theorem BRel.put {B : Nat} {m : Mp} {w : World} {b o : Nat} {x : Blk} {vs vs' : List Value} {fl : Bool} (h : BRel B m w b x) (hro : x.ro = false) (ho : o + vs.length ≤ x.cells.length) (hv : LRel m vs vs') :
    BRel B m (w.setCells (m b).blk ((m b).off + o) vs') b ⟨putAll x.cells o vs, fl, x.ro, x.grow⟩ := by
  obtain ⟨c, t, fr, h1, h2, h3, h4, h5⟩ := h
  have hlen : (win c (m b).off x.cells.length).length = x.cells.length := h4.1
  have hw : (m b).off + x.cells.length ≤ c.size ∨ x.cells.length = 0 := by
    unfold win at hlen; simp at hlen; omega
  have hsz : (m b).off + x.cells.length ≤ c.size := by rcases hw with hw | hw <;> omega
  obtain ⟨c', k1, k2⟩ := setCells_at vs' ((m b).off + o) w c h1 (by rw [hv.1]; omega)
  have hs' : c'.size = c.size := by
    have := congrArg List.length k2
    simp at this
    rw [hv.1] at this
    omega
  refine ⟨c', t, fr, k1, h2, h3.trans hs'.symm, ?_, h5⟩
  show LRel m (putAll x.cells o vs) (win c' (m b).off (putAll x.cells o vs).length)
  rw [putAll_len ho, win_put k2 hsz (by rw [hv.1]; exact ho)]
  exact h4.put hv o
theorem one_of_plain {v : Value} (h : plainCell v = true) : v.oneCell' = true := by cases v <;> first | rfl | cases h
theorem BRel.run_store {P : Program} {B : Nat} {m : Mp} {w : World} {b o : Nat} {x : Blk} {vs vs' : List Value} (h : BRel B m w b x) (hro : x.ro = false) (ho : o + vs.length ≤ x.cells.length) (hv : LRel m vs vs') (hp : vs.all plainCell = true) :
    (storeCells ⟨(m b).blk, (m b).off + o, none⟩ vs').run P w = .ok () (w.setCells (m b).blk ((m b).off + o) vs') := by
  obtain ⟨c, t, fr, h1, h2, h3, h4, h5⟩ := h
  rw [hro] at h5
  obtain ⟨h5, rfl⟩ := h5
  have hlen : (win c (m b).off x.cells.length).length = x.cells.length := h4.1
  have hsz : (m b).off + x.cells.length ≤ c.size ∨ x.cells.length = 0 := by
    unfold win at hlen; simp at hlen; omega
  have := run_storeCells_cells (P := P) (m b).blk ((m b).off + o) vs' 0 w
    (fun j hj => by
      have : (m b).off + o + 0 + j < c.size := by rw [hv.1] at hj; omega
      simp [World.cell?, h1]; omega)
    (fun j hj => by simp [World.frozen?, h1])
    (fun v hv' => one_of_plain (List.all_eq_true.1 (hv.plain hp) v hv'))
  simpa using this

/-! ### What an operation leaves -/
structure Done (B : Nat) (m m' : Mp) (h : Heap) (w w' : World) (f : Eff) : Prop where
  below : Below B w w'
  keep : ∀ b, b ≠ h.next → m' b = m b
  same : f.isNew = false → m' = m
  far : ∀ k, k < w.heap.size → (∀ b ∈ f.wr, (m b).blk ≠ k) → w'.heap[k]? = w.heap[k]?
  eff : match f with
    | .non => True
    | .new x => BRel B m' w' h.next x ∧ w.heap.size ≤ (m' h.next).blk ∧ x.ro = false
    | .set b x => BRel B m' w' b x ∧ x.ro = false
    | .mv k x => BRel B m' w' h.next x ∧ ((m' h.next).blk = (m k).blk ∨ w.heap.size ≤ (m' h.next).blk) ∧ x.ro = false
theorem Done.rfl {B : Nat} {m : Mp} {h : Heap} {w : World} : Done B m m h w w .non := ⟨Below.refl _ _, fun _ _ => Eq.refl _, fun _ => Eq.refl _, fun _ _ _ => Eq.refl _, trivial⟩
def Sim (P : Program) (o : Oper) (a : Act) (B : Nat) (m : Mp) (h : Heap) (w : World) : Res → Prop
  | .val v _ f => ∃ m' v' w', (execOp a.eval o).run P w = .ok (.value v') w' ∧ VRel m' v v' ∧ Done B m m' h w w' f
  | .unit _ f => ∃ m' w', (execOp a.eval o).run P w = .ok .skip w' ∧ Done B m m' h w w' f
  | .enter g args => ∃ args', (execOp a.eval o).run P w = .ok (.enter g args'.toArray) w ∧ LRel m args args'
theorem Sim.still {P : Program} {o : Oper} {a : Act} {B : Nat} {m : Mp} {h : Heap} {w : World} {v v' : Value} {rd : List Nat} (hr : (execOp a.eval o).run P w = .ok (.value v') w) (hv : VRel m v v') : Sim P o a B m h w (.val v rd .non) :=
  ⟨m, v', w, hr, hv, .rfl⟩

theorem run_v {P : Program} {s : Sem Value} {v : Value} {w w' : World} (h : s.run P w = .ok v w') : (do pure (.value (← s)) : Sem Next).run P w = .ok (.value v) w' := by
  simp [h]
theorem pureRun_run {α : Type} {P : Program} : ∀ {s : Sem α} {r : α}, pureRun P s = some r → ∀ w, s.run P w = .ok r w
  | .pure _, _, h, _ => by cases h; rfl
  | .program k, _, h, w => pureRun_run (s := k P) h w
  | .mark _ k, _, h, w => pureRun_run (s := k) h w
  | .load .., _, h, _ => by cases h
  | .store .., _, h, _ => by cases h
  | .new .., _, h, _ => by cases h
  | .shape .., _, h, _ => by cases h
  | .freeze .., _, h, _ => by cases h
  | .frozen .., _, h, _ => by cases h
  | .getObj .., _, h, _ => by cases h
  | .setObj .., _, h, _ => by cases h
  | .choose .., _, h, _ => by cases h
  | .sys .., _, h, _ => by cases h
  | .halt _, _, h, _ => by cases h
end Go.Am
end
section
set_option linter.unusedVariables false
set_option linter.unusedSimpArgs false
namespace Go.Am
open Go.RowKit

/-- what is known when an operation is carried out -/
structure Pre (P : Program) (o : Oper) (e : Env) (a : Act) (B : Nat) (m : Mp) (h : Heap) (w : World) (p : Nat → Prop) : Prop where
  rel : ∀ x ∈ o.op.operands, VRel m (ev e x) (a.eval x)
  sc : ∀ x ∈ o.op.operands, Sc p (ev e x)
  plain : ∀ b x, h.get b = some x → x.cells.all plainCell = true
  base : B ≤ w.heap.size
def Res.rd : Res → List Nat
  | .val _ rd _ | .unit rd _ => rd
  | .enter _ _ => []
def Res.eff : Res → Eff
  | .val _ _ f | .unit _ f => f
  | .enter _ _ => .non
def Reads (B : Nat) (m : Mp) (h : Heap) (w : World) (p : Nat → Prop) (l : List Nat) : Prop := ∀ b ∈ l, ∀ x, h.get b = some x → BRel B m w b x ∧ ∀ v ∈ x.cells, Sc p v
section
variable {P : Program} {dst : Option Tmp} {ty : TypeId} {pos : String} {af : Array Edge} {g : Option (Nat × Bool)} {e : Env} {a : Act} {B : Nat} {m : Mp} {h : Heap} {w : World} {r : Res} {p : Nat → Prop}

theorem sim_move {x : Operand} (hp : Pre P ⟨dst, .move x, ty, pos, af, g⟩ e a B m h w p) (hs : moveS x e h = some r) : Sim P ⟨dst, .move x, ty, pos, af, g⟩ a B m h w r := by
  cases hs
  exact .still (v' := a.eval x) rfl (hp.rel x (by simp [Op.operands]))
theorem sim_assign {x : Operand} (hp : Pre P ⟨dst, .assign x, ty, pos, af, g⟩ e a B m h w p) (hs : moveS x e h = some r) : Sim P ⟨dst, .assign x, ty, pos, af, g⟩ a B m h w r := by
  cases hs
  exact .still (v' := a.eval x) rfl (hp.rel x (by simp [Op.operands]))
theorem sim_pick {c x y : Operand} (hp : Pre P ⟨dst, .pick c x y, ty, pos, af, g⟩ e a B m h w p) (hs : pickS c x y e h = some r) : Sim P ⟨dst, .pick c x y, ty, pos, af, g⟩ a B m h w r := by
  have hc := hp.rel c (by simp [Op.operands])
  have hx := hp.rel x (by simp [Op.operands])
  have hy := hp.rel y (by simp [Op.operands])
  unfold pickS at hs
  split at hs
  · rename_i t ht
    cases hs
    rw [ht] at hc
    have hc := hc.bool
    refine .still (v' := if t then a.eval x else a.eval y) ?_ ?_
    · show (do pure (Next.value (if ← asBool (a.eval c) then a.eval x else a.eval y)) : Sem Next).run P w = _
      rw [hc]; rfl
    · cases t <;> simp [hx, hy]
  · cases hs
theorem asValue_some {n : Option Next} {r : Res} (h : asValue n = some r) : ∃ v, n = some (.value v) ∧ flat v = true ∧ r = .val v [] .non := by
  unfold asValue at h
  split at h
  · rename_i v
    cases hf : flat v
    · rw [hf] at h; cases h
    · rw [hf] at h; cases h; exact ⟨v, rfl, hf, rfl⟩
  · cases h
theorem sim_ofPure {o : Oper} (hsel : ∀ cs b, o.op ≠ .select cs b) (hp : Pre P o e a B m h w p) (hf : ∀ x ∈ o.op.operands, flat (ev e x) = true) (hs : asValue (pureRun P (execOp (ev e) o)) = some r) : Sim P o a B m h w r := by
  obtain ⟨v, hv, hfl, rfl⟩ := asValue_some hs
  refine .still (v' := v) ?_ (VRel.flat hfl)
  have : execOp (ev e) o = execOp a.eval o := execOp_congr o hsel fun x hx => ((hp.rel x (by simpa using hx)).of_flat (hf x (by simpa using hx))).symm
  rw [← this]
  exact pureRun_run hv w
theorem sim_pure {o : Oper} (hsel : ∀ cs b, o.op ≠ .select cs b) (hp : Pre P o e a B m h w p) (hs : pureS P o e h = some r) : Sim P o a B m h w r := by
  unfold pureS at hs
  cases hf : o.op.operands.toList.all fun x => flat (ev e x)
  · rw [hf] at hs; cases hs
  · rw [hf] at hs
    exact sim_ofPure hsel hp (fun x hx => List.all_eq_true.1 hf x (by simpa using hx)) hs
theorem run_nilCheck {x : Operand} {u : Value} (hu : a.eval x = u) (hk : (∃ ad, u = .pointer (some ad)) ∨ (∃ gg f c, u = .func (.func gg) f c) ∨ ∃ t v, u = .iface t v) :
    (execOp a.eval ⟨dst, .nilCheck x, ty, pos, af, g⟩).run P w = .ok (.value u) w := by
  unfold execOp
  dsimp only
  rw [hu]
  rcases hk with ⟨ad, rfl⟩ | ⟨gg, f, c, rfl⟩ | ⟨t, v, rfl⟩ <;> rfl
theorem sim_nilCheck {x : Operand} (hp : Pre P ⟨dst, .nilCheck x, ty, pos, af, g⟩ e a B m h w p) (hs : nilCheckS x e h = some r) : Sim P ⟨dst, .nilCheck x, ty, pos, af, g⟩ a B m h w r := by
  have hx := hp.rel x (by simp [Op.operands])
  obtain ⟨u, hu⟩ : ∃ u, a.eval x = u := ⟨_, rfl⟩
  rw [hu] at hx
  unfold nilCheckS at hs
  split at hs
  · rename_i ad he
    cases hs
    rw [he] at hx
    refine .still (v' := u) (run_nilCheck hu (.inl ?_)) hx
    cases hx with
    | same _ hh => cases hh
    | ptr b o => exact ⟨_, rfl⟩
  · rename_i gg first captured he
    cases hs
    rw [he] at hx
    refine .still (v' := u) (run_nilCheck hu (.inr (.inl ?_))) hx
    cases hx with
    | same _ hh => cases hh
    | func fn xs xs' ys ys' hs h hs' h' => exact ⟨_, _, _, rfl⟩
  · rename_i t v he
    cases hs
    rw [he] at hx
    refine .still (v' := u) (run_nilCheck hu (.inr (.inr ?_))) hx
    cases hx with
    | same _ hh => cases hh
    | iface t v v' h => exact ⟨_, _, rfl⟩
  · cases hs

/-! ### Types -/
theorem run_szOf {t : TypeId} {n : Nat} (hz : szOf P t = some n) (w : World) : (sizeOf t).run P w = .ok n w := by
  unfold szOf at hz
  obtain ⟨i, hi, rfl⟩ := Option.map_eq_some_iff.1 hz
  simp [sizeOf, typeInfo, hi]
theorem run_isAgg {t : TypeId} {b : Bool} (hz : aggT P t = some b) (w : World) : (isAgg t).run P w = .ok b w := by
  unfold aggT at hz
  obtain ⟨d, hd, hb⟩ := Option.map_eq_some_iff.1 hz
  simp only [isAgg, Sem.run_bind, run_underlying hd, Result.andThen_ok]
  subst hb
  split <;> simp_all
theorem run_sureAddr (ad : Addr) (w : World) : (Instr.sureAddr (.pointer (some ad))).run P w = .ok ad w := rfl

theorem sim_fieldAddr {s : TypeId} {x : Operand} {f : Nat} (hp : Pre P ⟨dst, .fieldAddr s x f, ty, pos, af, g⟩ e a B m h w p) (hs : fieldAddrS P s x f e h = some r) : Sim P ⟨dst, .fieldAddr s x f, ty, pos, af, g⟩ a B m h w r := by
  have hx := hp.rel x (by simp [Op.operands])
  unfold fieldAddrS at hs
  cases hu : P.underlying s with
  | none => rw [hu] at hs; cases hs
  | some d =>
    rw [hu] at hs
    cases d with
    | struct fields =>
      dsimp only at hs
      cases hf : fields[f]? with
      | none => rw [hf] at hs; cases hs
      | some fd =>
      rw [hf] at hs
      dsimp only at hs
      cases hn : szOf P fd.type with
      | none => rw [hn] at hs; cases hs
      | some n =>
        rw [hn] at hs
        dsimp only at hs
        cases h0 : Nat.beq n 0
        · rw [h0] at hs
          have hn0 : n ≠ 0 := fun hh => by rw [hh] at h0; cases h0
          simp only [cond_false] at hs
          cases hq : asPtr (ev e x) with
          | none => rw [hq] at hs; cases hs
          | some bo =>
            obtain ⟨b, o⟩ := bo
            rw [hq] at hs
            cases hs
            have he := hx.asPtr hq
            refine .still (v' := .pointer (some ⟨(m b).blk, (m b).off + (o + fd.offset), none⟩)) ?_ (.ptr b (o + fd.offset))
            refine run_v (s := Instr.fieldAt s (a.eval x) f) ?_
            rw [he]
            simp [Instr.fieldAt, run_underlying hu, hf, run_sureAddr, fieldPlace, run_szOf hn, hn0, add_lit, Nat.add_assoc]
        · rw [h0] at hs; cases hs
    | _ => cases hs
theorem inRange_iff {k : Int} {n : Nat} (hr : inRange k n = true) : 0 ≤ k ∧ k < n := by
  unfold inRange at hr
  split at hr
  · rename_i mm
    have := Nat.le_of_ble_eq_true hr
    constructor
    · exact Int.natCast_nonneg _
    · show (mm : Int) < n; omega
  · cases hr
theorem indexV_some {sz : Nat} {k : Option Int} {s : Option (Option (Nat × Nat) × Nat × Nat)} {r : Res} (hs : indexV sz k s = some r) :
    ∃ i b o len cap, k = some i ∧ s = some (some (b, o), len, cap) ∧ 0 ≤ i ∧ i < (len : Int) ∧ r = .val (.pointer (some ⟨b, o + i.toNat * sz, none⟩)) [] .non := by
  unfold indexV at hs
  split at hs
  · rename_i i b o len cap
    cases hr : inRange i len
    · rw [hr] at hs; cases hs
    · rw [hr] at hs; cases hs
      obtain ⟨h1, h2⟩ := inRange_iff hr
      exact ⟨i, b, o, len, cap, rfl, rfl, h1, h2, rfl⟩
  · cases hs
theorem sim_indexAddr {t : TypeId} {x i : Operand} (hp : Pre P ⟨dst, .indexAddr t x i, ty, pos, af, g⟩ e a B m h w p) (hs : indexAddrS P t x i e h = some r) : Sim P ⟨dst, .indexAddr t x i, ty, pos, af, g⟩ a B m h w r := by
  have hx := hp.rel x (by simp [Op.operands])
  have hi := hp.rel i (by simp [Op.operands])
  unfold indexAddrS at hs
  cases hu : P.underlying t with
  | none => rw [hu] at hs; cases hs
  | some d =>
    rw [hu] at hs
    cases d with
    | slice el =>
      dsimp only at hs
      cases hz : szOf P el with
      | none => rw [hz] at hs; cases hs
      | some sz =>
        rw [hz] at hs
        obtain ⟨k, b, o, len, cap, h1, h2, h3, h4, rfl⟩ := indexV_some hs
        obtain ⟨kk, hik⟩ := hi.asI h1
        obtain ⟨_, c', he, _⟩ := hx.asSl h2
        refine .still (v' := .pointer (some ⟨(m b).blk, (m b).off + (o + k.toNat * sz), none⟩)) ?_ (.ptr b _)
        refine run_v (s := Instr.indexAt t (a.eval x) (a.eval i)) ?_
        rw [he, hik]
        simp [Instr.indexAt, asIntOf, run_underlying hu, h3, h4, run_szOf hz, add_lit, Nat.add_assoc]
    | array len el =>
      dsimp only at hs
      cases hz : szOf P el with
      | none => rw [hz] at hs; cases hs
      | some sz =>
        rw [hz] at hs
        obtain ⟨k, b, o, len', cap, h1, h2, h3, h4, rfl⟩ := indexV_some hs
        obtain ⟨kk, hik⟩ := hi.asI h1
        obtain ⟨p, hp1, hp2⟩ := Option.map_eq_some_iff.1 h2
        cases hp2
        have he := hx.asPtr hp1
        refine .still (v' := .pointer (some ⟨(m b).blk, (m b).off + (o + k.toNat * sz), none⟩)) ?_ (.ptr b _)
        refine run_v (s := Instr.indexAt t (a.eval x) (a.eval i)) ?_
        rw [he, hik]
        simp [Instr.indexAt, asIntOf, run_underlying hu, h3, h4, run_szOf hz, add_lit, Nat.add_assoc, run_sureAddr]
    | _ => cases hs
theorem sim_extract {x : Operand} {i : Nat} (hp : Pre P ⟨dst, .extract x i, ty, pos, af, g⟩ e a B m h w p) (hs : extractS x i e h = some r) : Sim P ⟨dst, .extract x i, ty, pos, af, g⟩ a B m h w r := by
  have hx := hp.rel x (by simp [Op.operands])
  unfold extractS at hs
  split at hs
  · rename_i vs he
    obtain ⟨v, hv, rfl⟩ := Option.map_eq_some_iff.1 hs
    rw [he] at hx
    obtain ⟨u, hu⟩ : ∃ u, a.eval x = u := ⟨_, rfl⟩
    rw [hu] at hx
    cases hx with
    | same _ hh => cases hh
    | tuple _ ys hs hr =>
      have hlt : i < ys.size := by
        rw [hs]
        rcases Nat.lt_or_ge i vs.size with hh | hh
        · exact hh
        · rw [Array.getElem?_eq_none hh] at hv; cases hv
      have hy : ys[i]? = some ys[i] := by simp [hlt]
      refine .still (v' := ys[i]) ?_ (hr i v _ hv hy)
      refine run_v (s := Instr.extract (a.eval x) i) ?_
      rw [hu]
      simp [Instr.extract, hy]
  · cases hs
theorem run_builtin {b : Builtin} {args : Array Operand} {argTypes : Array TypeId} : (execOp a.eval ⟨dst, .call ⟨.builtin b, args, argTypes⟩, ty, pos, af, g⟩).run P w =
    (builtin b argTypes ty (args.map fun | .const _ => true | _ => false) (args.map a.eval)).run P w := by
  simp only [execOp, resolve, Sem.run_bind, Sem.run_pure, Result.andThen_ok, invoke]
  rfl
theorem sim_len {x : Operand} {t : TypeId} (hp : Pre P ⟨dst, .call ⟨.builtin .len, #[x], #[t]⟩, ty, pos, af, g⟩ e a B m h w p) (hs : lenS P t x e h = some r) : Sim P ⟨dst, .call ⟨.builtin .len, #[x], #[t]⟩, ty, pos, af, g⟩ a B m h w r := by
  have hx := hp.rel x (by simp [Op.operands, Call.operands])
  have hrun : (execOp a.eval ⟨dst, .call ⟨.builtin .len, #[x], #[t]⟩, ty, pos, af, g⟩).run P w = (do pure (.value (← Builtin.len_ #[t] ty #[a.eval x])) : Sem Next).run P w := by
    rw [run_builtin]; simp [builtin]
  unfold lenS at hs
  cases hu : P.underlying t with
  | none => rw [hu] at hs; cases hs
  | some d =>
    rw [hu] at hs
    cases d with
    | string =>
      dsimp only at hs
      unfold lenStr at hs
      split at hs
      · rename_i s he
        cases hs
        rw [he] at hx
        have hx := VRel.of_flatCell rfl hx
        refine .still (v' := .int .i64 s.size) (hrun.trans (run_v ?_)) (VRel.flat rfl)
        rw [hx]
        simp [Builtin.len_, run_underlying hu, goInt]
      · cases hs
    | slice el =>
      dsimp only at hs
      unfold lenV at hs
      split at hs
      · rename_i ad n cc he
        cases hs
        rw [he] at hx
        have : ∃ ad' c', a.eval x = .slice ad' n c' := by
          obtain ⟨u, hu⟩ : ∃ u, a.eval x = u := ⟨_, rfl⟩
          rw [hu] at hx ⊢
          cases hx with
          | same _ _ => exact ⟨_, _, rfl⟩
          | sl b o n c c' hc => exact ⟨_, _, rfl⟩
        obtain ⟨ad', c', hx⟩ := this
        refine .still (v' := .int .i64 n) (hrun.trans (run_v ?_)) (VRel.flat rfl)
        rw [hx]
        simp [Builtin.len_, run_underlying hu, goInt]
      · cases hs
    | _ => cases hs
end
end Go.Am
end
section
set_option linter.unusedVariables false
set_option linter.unusedSimpArgs false
namespace Go.Am
open Go.RowKit

theorem wrap_nat (n : Nat) (h : n ≤ 9223372036854775807) : IntKind.i64.wrap (Int.ofNat n) = Int.ofNat n := IntWalk.i64_in _ (by have e : (Int.ofNat n) = (n : Int) := rfl; rw [e]; omega)
theorem wrap_neg (n : Nat) (h : n ≤ 9223372036854775807) : IntKind.i64.wrap (Int.negSucc n) = Int.negSucc n := by
  have e : (Int.negSucc n) = -(n : Int) - 1 := by omega
  rw [e]
  exact IntWalk.i64_in _ (by omega)
theorem cond_ble {α : Type} {n c : Nat} {x y : α} (h : n ≤ c → x = y) : (bif Nat.ble n c then x else y) = y := by
  cases hh : Nat.ble n c
  · rfl
  · exact h (Nat.le_of_ble_eq_true hh)
theorem wrapF_eq (k : IntKind) (n : Int) : wrapF k n = k.wrap n := by
  cases k <;> try rfl
  cases n with
  | ofNat mm => exact cond_ble fun h => (wrap_nat mm h).symm
  | negSucc mm => exact cond_ble fun h => (wrap_neg mm h).symm
theorem equal_step {P : Program} {t : TypeId} {u v : Value} {b : Bool} {d : TypeDesc} (hd : P.underlying t = some d) (hk : nilEq (some d) u v = some b) (w : World) : (Op.equal t u v).run P w = .ok b w := by
  have e : Op.equal t u v = Op.equalIn (9999 + 1) t u v := rfl
  rw [e, Op.equalIn]
  simp only [Sem.run_bind, run_underlying hd, Result.andThen_ok]
  unfold nilEq at hk
  split at hk
  all_goals first
    | (cases hk; done)
    | (rename_i e1 <;> cases e1 <;> cases hk <;> rfl)
    | skip
  all_goals (cases hk)
  all_goals rfl
section
variable {P : Program} {dst : Option Tmp} {ty : TypeId} {pos : String} {af : Array Edge} {g : Option (Nat × Bool)} {e : Env} {a : Act} {B : Nat} {m : Mp} {h : Heap} {w : World} {r : Res} {p : Nat → Prop}

theorem abin_flat {op : BinOp} {k : IntKind} {x y : Int} {v : Value} (hv : abin op k x y = some v) : flat v = true := by
  cases op <;> simp only [abin] at hv <;> first
    | (cases hv; rfl)
    | (cases hv; done)
    | (split at hv <;> cases hv; rfl)
theorem run_abin {op : BinOp} {k : IntKind} {x y : Int} {v : Value} {t : TypeId} (hv : abin op k x y = some v) : (binOp op t (.int k x) (.int k y)).run P w = .ok v w := by
  cases op <;> simp only [abin] at hv <;> first
    | (cases hv; simp [binOp, Op.intArith, Op.intCmp, wrapF_eq]; done)
    | (cases hv; done)
    | (split at hv
       · cases hv
       · rename_i h0
         cases hv
         simp [binOp, Op.intDiv, h0, wrapF_eq])
theorem sim_bin {op : BinOp} {t t' : TypeId} {x y : Operand} (hp : Pre P ⟨dst, .binOp op t x y t', ty, pos, af, g⟩ e a B m h w p) (hs : binS P ⟨dst, .binOp op t x y t', ty, pos, af, g⟩ op t x y e h = some r) : Sim P ⟨dst, .binOp op t x y t', ty, pos, af, g⟩ a B m h w r := by
  have hx := hp.rel x (by simp [Op.operands])
  have hy := hp.rel y (by simp [Op.operands])
  have hrun : (execOp a.eval ⟨dst, .binOp op t x y t', ty, pos, af, g⟩).run P w = (do pure (.value (← (do eqGuard op t x y (a.eval x) (a.eval y); binOp op t (a.eval x) (a.eval y)))) : Sem Next).run P w := rfl
  unfold binS orElse at hs
  split at hs
  · rename_i r' hb
    cases hs
    unfold binI at hb
    split at hb
    · rename_i k i k' j h1 h2
      cases hk : decide (k = k')
      · rw [hk] at hb; cases hb
      · rw [hk] at hb
        have hk := of_decide_eq_true hk
        subst hk
        obtain ⟨v, hv, rfl⟩ := Option.map_eq_some_iff.1 hb
        have ex := hx.asIK h1
        have ey := hy.asIK h2
        refine .still (v' := v) (hrun.trans (run_v ?_)) (VRel.flat (abin_flat hv))
        rw [ex, ey]
        have hg : eqGuard op t x y (.int k i) (.int k j) = pure () := by cases op <;> rfl
        rw [hg]
        simpa using run_abin hv
    · cases hb
  · unfold binV at hs
    cases hf : flat (ev e x) && flat (ev e y)
    · rw [hf] at hs
      simp only [cond_false] at hs
      unfold nilV at hs
      split at hs
      · rename_i b hb
        have key : ∀ u v, VRel m (ev e x) u → VRel m (ev e y) v → eqGuard op t x y u v = pure () ∧ nilEq (P.underlying t) u v = some b ∧ (op = .eql → binOp op t u v = (do pure (.bool (← Op.equal t u v)))) ∧ (op = .neq → binOp op t u v = (do pure (.bool (!(← Op.equal t u v))))) := by
          intro u v hxu hyv
          revert hb hf hxu hyv
          generalize ev e x = X
          generalize ev e y = Y
          generalize P.underlying t = U
          intro hf hb hxu hyv
          unfold nilEq at hb
          split at hb <;> cases hb
          all_goals
            (cases hxu <;> cases hyv <;> first
               | (simp [flat, flat1, flatCell] at hf; done)
               | (rename_i q _; simp [flatCell] at q; done)
               | (rename_i q; simp [flatCell] at q; done)
               | (refine ⟨by cases op <;> rfl, rfl, by rintro rfl; rfl, by rintro rfl; rfl⟩))
        obtain ⟨k1, kk, k3, k4⟩ := key _ _ hx hy
        obtain ⟨d, hd⟩ : ∃ d, P.underlying t = some d := by
          cases hd : P.underlying t with
          | none => rw [hd] at kk; unfold nilEq at kk; cases kk
          | some d => exact ⟨d, rfl⟩
        have k2 := fun w' => equal_step (w := w') hd (by rw [← hd]; exact kk)
        split at hs
        · cases hs
          refine .still (v' := .bool b) (hrun.trans (run_v ?_)) (VRel.flat rfl)
          rw [k1, k3 rfl]
          simp [k2]
        · cases hs
          refine .still (v' := .bool !b) (hrun.trans (run_v ?_)) (VRel.flat rfl)
          rw [k1, k4 rfl]
          simp [k2]
        · cases hs
      · cases hs
    · rw [hf] at hs
      rw [Bool.and_eq_true] at hf
      refine sim_ofPure (fun _ _ hh => by cases hh) hp (fun z hz => ?_) hs
      simp [Op.operands] at hz
      rcases hz with rfl | rfl
      · exact hf.1
      · exact hf.2
theorem sim_un {op : UnOp} {t : TypeId} {x : Operand} (hp : Pre P ⟨dst, .unOp op t x, ty, pos, af, g⟩ e a B m h w p) (hs : unS P ⟨dst, .unOp op t x, ty, pos, af, g⟩ op x e h = some r) : Sim P ⟨dst, .unOp op t x, ty, pos, af, g⟩ a B m h w r := by
  have hx := hp.rel x (by simp [Op.operands])
  have hrun : (execOp a.eval ⟨dst, .unOp op t x, ty, pos, af, g⟩).run P w = (do pure (.value (← Op.unary op (a.eval x))) : Sem Next).run P w := rfl
  unfold unS unV at hs
  split at hs
  · rename_i b he
    rw [he] at hx
    have hx := hx.bool
    split at hs
    · cases hs
      refine .still (v' := .bool !b) (hrun.trans (run_v ?_)) (VRel.flat rfl)
      rw [hx]; rfl
    · cases hs
  · rename_i k n he
    have hfl : flat (ev e x) = true := by rw [he]; rfl
    split at hs
    · cases hs
      rw [he] at hx
      have hx := VRel.of_flatCell rfl hx
      refine .still (v' := .int k (wrapF k (0 - n))) (hrun.trans (run_v ?_)) (VRel.flat rfl)
      rw [hx, wrapF_eq]; rfl
    · exact sim_ofPure (fun _ _ hh => by cases hh) hp (fun z hz => by simp [Op.operands] at hz; subst hz; exact hfl) hs
  · rename_i v _ _
    cases hf : flat (ev e x)
    · rw [hf] at hs; cases hs
    · rw [hf] at hs
      exact sim_ofPure (fun _ _ hh => by cases hh) hp (fun z hz => by simp [Op.operands] at hz; subst hz; exact hf) hs
theorem extract_toList {cs : Array Value} {o n : Nat} : (cs.extract o (o + n)).toList = (cs.toList.drop o).take n := by
  simp [Array.toList_extract, List.extract_eq_take_drop]
theorem sim_field {s : TypeId} {x : Operand} {f : Nat} (hp : Pre P ⟨dst, .field s x f, ty, pos, af, g⟩ e a B m h w p) (hs : fieldS P s x f e h = some r) : Sim P ⟨dst, .field s x f, ty, pos, af, g⟩ a B m h w r := by
  have hx := hp.rel x (by simp [Op.operands])
  have hrun : (execOp a.eval ⟨dst, .field s x f, ty, pos, af, g⟩).run P w = (do pure (.value (← Instr.field s (a.eval x) f)) : Sem Next).run P w := rfl
  unfold fieldS at hs
  cases hu : P.underlying s with
  | none => rw [hu] at hs; cases hs
  | some d =>
    rw [hu] at hs
    cases d with
    | struct fields =>
      dsimp only at hs
      cases hf : fields[f]? with
      | none => rw [hf] at hs; cases hs
      | some fd =>
        rw [hf] at hs
        dsimp only at hs
        cases hg : aggT P fd.type with
        | none => rw [hg] at hs; cases hs
        | some gg =>
          cases hn : szOf P fd.type with
          | none => rw [hg, hn] at hs; cases hs
          | some n =>
            rw [hg, hn] at hs
            dsimp only at hs
            unfold fieldOf at hs
            split at hs
            · rename_i cs he
              rw [he] at hx
              obtain ⟨ys, hy, hl⟩ := hx.of_agg
              rw [hy] at hrun
              obtain ⟨v, hv, rfl⟩ := Option.map_eq_some_iff.1 hs
              cases gg with
              | true =>
                simp only [cond_true] at hv
                obtain ⟨l, hl1, rfl⟩ := Option.map_eq_some_iff.1 hv
                obtain ⟨hle, rfl⟩ := cut_some hl1
                refine .still (v' := .agg (ys.extract fd.offset (fd.offset + n))) (hrun.trans (run_v ?_)) (.mk_agg ?_)
                · simp [Instr.field, run_underlying hu, hf, asAgg, part, run_isAgg hg, run_szOf hn]
                · rw [extract_toList, List.toList_toArray]
                  exact (hl.drop _).take _
              | false =>
                simp only [cond_false] at hv
                obtain ⟨v', hv', hr⟩ := hl.get (i := fd.offset) (by simpa using hv)
                refine .still (v' := v') (hrun.trans (run_v ?_)) hr
                simp at hv'
                simp [Instr.field, run_underlying hu, hf, asAgg, part, run_isAgg hg, hv']
            · cases hs
    | _ => cases hs
end
end Go.Am
end
section
set_option linter.unusedVariables false
set_option linter.unusedSimpArgs false
namespace Go.Am
open Go.RowKit
section
variable {P : Program} {dst : Option Tmp} {ty : TypeId} {pos : String} {af : Array Edge} {g : Option (Nat × Bool)} {e : Env} {a : Act} {B : Nat} {m : Mp} {h : Heap} {w : World} {r : Res} {p : Nat → Prop}

theorem run_cutAt {cap d n : Nat} {x : Option Value} {x' : Option Value} (hc : cutAt cap d x = some n) (hr : ∀ v, x = some v → ∃ v', x' = some v' ∧ VRel m v v') (hn : x = none → x' = none) :
    (x = none ∧ x' = none ∧ n = d) ∨ ∃ k, x' = some (.int k n) ∧ n ≤ cap := by
  unfold cutAt at hc
  split at hc
  · cases hc; exact .inl ⟨rfl, hn rfl, rfl⟩
  · rename_i k mm
    cases hb : Nat.ble mm cap
    · rw [hb] at hc; cases hc
    · rw [hb] at hc
      cases hc
      obtain ⟨v', rfl, hv⟩ := hr _ rfl
      have := VRel.of_flatCell rfl hv
      subst this
      exact .inr ⟨k, rfl, Nat.le_of_ble_eq_true hb⟩
  · cases hc
theorem run_sliceBound {k : IntKind} {n y : Nat} {code : BoundsCode} (hn : n ≤ y) (w : World) : (Instr.sliceBound (.int k n) y code).run P w = .ok n w := by
  simp [Instr.sliceBound, asIntOf, hn]
theorem run_sliceBounds {len cap ih il : Nat} {lo hi lo' hi' : Option Value} (hlo : ∀ v, lo = some v → ∃ v', lo' = some v' ∧ VRel m v v') (hlo' : lo = none → lo' = none) (hhi : ∀ v, hi = some v → ∃ v', hi' = some v' ∧ VRel m v v') (hhi' : hi = none → hi' = none)
    {c : Nat} (hc : cap ≤ c) (h1 : cutAt cap len hi = some ih) (h2 : cutAt ih 0 lo = some il) (w : World) : (Instr.sliceBounds true len c lo' hi' none).run P w = .ok (il, ih, c) w ∧ (il ≤ ih ∨ il = 0) := by
  rcases run_cutAt h1 hhi hhi' with ⟨_, rfl, rfl⟩ | ⟨k, rfl, hk⟩ <;> rcases run_cutAt h2 hlo hlo' with ⟨_, rfl, rfl⟩ | ⟨k', rfl, hk'⟩
  · exact ⟨(by simp [Instr.sliceBounds]), .inr rfl⟩
  · exact ⟨(by simp [Instr.sliceBounds, run_sliceBound hk']), .inl hk'⟩
  · exact ⟨(by simp [Instr.sliceBounds, run_sliceBound (Nat.le_trans hk hc)]), .inr rfl⟩
  · exact ⟨(by simp [Instr.sliceBounds, run_sliceBound (Nat.le_trans hk hc), run_sliceBound hk']), .inl hk'⟩
theorem opt_rel {x : Option Operand} (hx : ∀ y, x = some y → VRel m (ev e y) (a.eval y)) : (∀ v, x.map (ev e) = some v → ∃ v', x.map a.eval = some v' ∧ VRel m v v') ∧ (x.map (ev e) = none → x.map a.eval = none) := by
  cases x with
  | none => exact ⟨fun v hv => (by cases hv), fun _ => rfl⟩
  | some y => exact ⟨fun v hv => (by cases hv; exact ⟨_, rfl, hx y rfl⟩), fun hh => (by cases hh)⟩
theorem asSl_val {v : Value} {A : Option (Nat × Nat)} {n c : Nat} (hp : asSl v = some (A, n, c)) : v = .slice (A.map fun p => ⟨p.1, p.2, none⟩) n c := by
  unfold asSl at hp
  split at hp <;> cases hp <;> rfl
theorem run_sliceAt {t el : TypeId} {sz : Nat} (hu : P.underlying t = some (.slice el)) (hz : szOf P el = some sz) {A : Option Addr} {n c : Nat} {lo hi : Option Value} {il ih : Nat} (hb : (Instr.sliceBounds true n c lo hi none).run P w = .ok (il, ih, c) w) :
    (Instr.sliceAt t (.slice A n c) lo hi none).run P w = .ok (.slice (if c = il then A else A.map (·.add (il * sz))) (ih - il) (c - il)) w := by
  simp [Instr.sliceAt, Instr.slice, run_underlying hu, hb, run_szOf hz]
theorem sim_slice {t : TypeId} {x : Operand} {lo hi : Option Operand} (hp : Pre P ⟨dst, .slice t x lo hi none, ty, pos, af, g⟩ e a B m h w p) (hs : sliceS P ⟨dst, .slice t x lo hi none, ty, pos, af, g⟩ t x lo hi e h = some r) (hT : Reads B m h w p r.rd) :
    Sim P ⟨dst, .slice t x lo hi none, ty, pos, af, g⟩ a B m h w r := by
  have hx := hp.rel x (by simp [Op.operands])
  have hlo := opt_rel (e := e) (a := a) (m := m) (x := lo) fun y hy => hp.rel y (by subst hy; simp [Op.operands])
  have hhi := opt_rel (e := e) (a := a) (m := m) (x := hi) fun y hy => hp.rel y (by subst hy; simp [Op.operands])
  have hrun : (execOp a.eval ⟨dst, .slice t x lo hi none, ty, pos, af, g⟩).run P w = (do pure (.value (← Instr.sliceAt t (a.eval x) (lo.map a.eval) (hi.map a.eval) none)) : Sem Next).run P w := rfl
  unfold sliceS at hs
  cases hu : P.underlying t with
  | none => rw [hu] at hs; cases hs
  | some d =>
    rw [hu] at hs
    cases d with
    | string => exact sim_pure (fun _ _ hh => by cases hh) hp hs
    | slice el =>
      dsimp only at hs
      cases hz : szOf P el with
      | none => rw [hz] at hs; cases hs
      | some sz =>
        rw [hz] at hs
        dsimp only at hs
        unfold sliceV at hs
        split at hs
        · rename_i A n c hsl
          obtain ⟨ih, h1, hs⟩ := Option.bind_eq_some_iff.1 hs
          obtain ⟨il, h2, hs⟩ := Option.bind_eq_some_iff.1 hs
          cases hle : Nat.ble ih c
          · rw [hle] at hs; cases hs
          rw [hle] at hs
          have hle := Nat.le_of_ble_eq_true hle
          simp only [cond_true] at hs
          cases A with
          | none =>
            cases hs
            have hx := hx.asSl_nil hsl
            obtain ⟨hb, _⟩ := run_sliceBounds (P := P) hlo.1 hlo.2 hhi.1 hhi.2 (Nat.le_refl c) h1 h2 w
            refine .still (v' := .slice none (ih - il) (c - il)) (hrun.trans (run_v ?_)) (.same _ rfl)
            rw [hx, run_sliceAt hu hz hb]
            simp
          | some bo =>
            obtain ⟨b, o⟩ := bo
            dsimp only at hs
            obtain ⟨ex, hg, hs⟩ := Option.bind_eq_some_iff.1 hs
            obtain ⟨_, c', hxv, hc'⟩ := hx.asSl hsl
            have hcc : c ≤ c' := by rcases hc' with rfl | ⟨_, _, hh, _⟩ <;> omega
            obtain ⟨hb, hll⟩ := run_sliceBounds (P := P) hlo.1 hlo.2 hhi.1 hhi.2 hcc h1 h2 w
            have hil : il ≤ c := by rcases hll with hh | hh <;> omega
            unfold growOk at hg
            cases hblk : h.get b with
            | none => rw [hblk] at hg; cases hg
            | some blk =>
              rw [hblk] at hg
              dsimp only at hg
              cases hic : Nat.beq il c
              · rw [hic] at hs
                cases hs
                have hne : il ≠ c := fun hh => by subst hh; simp at hic
                have hbr := (hT b (by simp [Res.rd]) blk hblk).1
                refine .still (v' := .slice (some ⟨(m b).blk, (m b).off + (o + il * sz), none⟩) (ih - il) (c' - il)) (hrun.trans (run_v ?_)) (.sl b _ _ _ _ ?_)
                · rw [hxv, run_sliceAt hu hz hb, if_neg (by omega)]
                  simp [add_lit, Nat.add_assoc]
                · rcases hc' with rfl | ⟨gr, hgr, h3, h4⟩
                  · exact .inl rfl
                  · refine .inr ⟨gr, hgr, by omega, ?_⟩
                    obtain ⟨_, _, _, _, hgb, _⟩ := hbr
                    rw [hgr] at hgb
                    rw [← hgb] at hg
                    dsimp only at hg
                    cases hgs : Nat.beq gr sz
                    · rw [hgs] at hg; cases hg
                    · have : gr = sz := Nat.eq_of_beq_eq_true hgs
                      subst this
                      have e1 : il * gr + (c' - il) * gr = c' * gr := by rw [← Nat.add_mul]; congr 1; omega
                      omega
              · rw [hic] at hs
                have hic : il = c := Nat.eq_of_beq_eq_true hic
                subst hic
                cases ex with
                | false => cases hs
                | true =>
                  cases hs
                  have hbr := (hT b (by simp [Res.rd]) blk hblk).1
                  have : c' = il := by
                    rcases hc' with rfl | ⟨gr, hgr, h3, h4⟩
                    · rfl
                    · obtain ⟨_, _, _, _, hgb, _⟩ := hbr
                      rw [hgr] at hgb
                      rw [← hgb] at hg
                      dsimp only at hg
                      cases hgs : Nat.beq gr sz <;> rw [hgs] at hg <;> cases hg
                  subst this
                  refine .still (v' := .slice (some ⟨(m b).blk, (m b).off + o, none⟩) (ih - c') (c' - c')) (hrun.trans (run_v ?_)) (.sl b _ _ _ _ (.inl rfl))
                  rw [hxv, run_sliceAt hu hz hb, if_pos rfl]
        · cases hs
    | _ => cases hs

/-! ### New memory -/
def upd (m : Mp) (b : Nat) (l : Loc) : Mp := fun k => if k = b then l else m k
theorem upd_same (m : Mp) (b : Nat) (l : Loc) : upd m b l b = l := by simp [upd]
theorem upd_ne (m : Mp) {b k : Nat} (l : Loc) (hk : k ≠ b) : upd m b l k = m k := by simp [upd, hk]
theorem win_new {c : Array Value} {n : Nat} : win c 0 n = c.toList.take n := by simp [win]
theorem new_block {cs : List Value} {c : Array Value} {t : TypeId} {fl : Bool} {gr : Option Nat} {w1 : World} (hB : B ≤ w.heap.size) (hw : Below B w w1) (hh : w1.heap = w.heap.push (.cells c t)) (hl : LRel m cs (c.toList.take cs.length)) (hs : ∀ v ∈ cs, Sc p v) (hpn : ¬ p h.next) :
    Done B m (upd m h.next ⟨w.heap.size, 0, c.size, gr⟩) h w w1 (.new ⟨cs, fl, false, gr⟩) := by
  have hat : w1.heap[w.heap.size]? = some (.cells c t (0, 0)) := by rw [hh]; simp
  refine ⟨hw, fun b hb => upd_ne m _ hb, fun hh => (by cases hh), fun k hk _ => ?_, ⟨⟨c, t, (0, 0), ?_, ?_, ?_, ?_, ?_⟩, ?_, rfl⟩⟩
  · rw [hh, Array.getElem?_push, if_neg (by omega)]
  · rw [upd_same]; exact hat
  · rw [upd_same]
  · rw [upd_same]; simp
  · rw [upd_same, win_new]
    exact hl.moved (p := p) (fun b hb => upd_ne m _ fun hh => hpn (by rw [← hh]; exact hb)) hs
  · simp [upd_same]; exact hB
  · rw [upd_same]; exact Nat.le_refl _
theorem LRel.take_all {l l' : List Value} (hl : LRel m l l') : LRel m l (l'.take l.length) := by
  rw [List.take_of_length_le (by rw [hl.1]; exact Nat.le_refl _)]; exact hl
theorem alloc_below (hB : B ≤ w.heap.size) (o : Obj) : Below B w (w.alloc o) := (Below.refl _ _).alloc hB o
theorem sim_boxV {o : Oper} {z z' : Value} {t : TypeId} (hB : B ≤ w.heap.size) (hpn : r.eff.isNew = true → ¬ p h.next) (hz : VRel m z z') (hsc : Sc p z) (hrun : (execOp a.eval o).run P w = .ok (.value (.pointer (some ⟨w.heap.size, 0, none⟩))) (w.alloc (.cells z'.cells t))) (hs : boxV h z = some r) : Sim P o a B m h w r := by
  unfold boxV at hs
  cases hp : z.cells.toList.all plainCell
  · rw [hp] at hs; cases hs
  · rw [hp] at hs
    cases hs
    have hl := hz.cells hp
    refine ⟨upd m h.next ⟨w.heap.size, 0, z'.cells.size, none⟩, _, _, hrun, ?_, new_block hB (alloc_below hB _) rfl hl.take_all hsc.cells (hpn rfl)⟩
    have := VRel.ptr (m := upd m h.next ⟨w.heap.size, 0, z'.cells.size, none⟩) h.next 0
    simpa [upd_same] using this
theorem sim_box {t : TypeId} {x : Operand} (hp : Pre P ⟨dst, .box t x, ty, pos, af, g⟩ e a B m h w p) (hs : boxS x e h = some r) (hpn : r.eff.isNew = true → ¬ p h.next) : Sim P ⟨dst, .box t x, ty, pos, af, g⟩ a B m h w r := by
  refine sim_boxV (t := t) hp.base hpn (hp.rel x (by simp [Op.operands])) (hp.sc x (by simp [Op.operands])) ?_ hs
  show (do pure (.value (← Instr.box t (a.eval x))) : Sem Next).run P w = _
  refine run_v ?_
  simp [Instr.box, newVar, newRow]
theorem info_zero {t : TypeId} {z : Value} (hz : (P.info? t).bind (·.zero) = some z) (w : World) : (zeroValue t).run P w = .ok z w := by
  obtain ⟨i, hi, hz⟩ := Option.bind_eq_some_iff.1 hz
  simp [zeroValue, typeInfo, hi, hz]
theorem sim_alloc {t : TypeId} (hp : Pre P ⟨dst, .alloc t, ty, pos, af, g⟩ e a B m h w p) (hs : allocS P t e h = some r) (hpn : r.eff.isNew = true → ¬ p h.next) : Sim P ⟨dst, .alloc t, ty, pos, af, g⟩ a B m h w r := by
  unfold allocS at hs
  cases hz : (P.info? t).bind (·.zero) with
  | none => rw [hz] at hs; cases hs
  | some z =>
    rw [hz] at hs
    dsimp only at hs
    cases hf : flat z
    · rw [hf] at hs; cases hs
    · rw [hf] at hs
      refine sim_boxV (t := t) hp.base hpn (VRel.flat hf) (Sc.of_flat hf) ?_ hs
      show (do pure (.value (← Instr.alloc t true (.tuple #[]))) : Sem Next).run P w = _
      refine run_v ?_
      simp [Instr.alloc, info_zero hz, newVar, newRow]

/-! ### Values put together -/
theorem LRel.set {l l' : List Value} {v v' : Value} (hl : LRel m l l') (hv : VRel m v v') (i : Nat) : LRel m (l.set i v) (l'.set i v') := by
  refine ⟨by simp [hl.1], fun j x x' h1 h2 => ?_⟩
  rw [List.getElem?_set] at h1 h2
  by_cases hij : i = j
  · subst hij
    rw [if_pos rfl] at h1 h2
    split at h1
    · cases h1
      split at h2
      · cases h2; exact hv
      · cases h2
    · cases h1
  · rw [if_neg hij] at h1 h2
    exact hl.2 j x x' h1 h2
theorem fold_rel {off : Nat} : ∀ (l l' : List Value) (k : Nat) (cs cs' : Array Value), LRel m l l' → LRel m cs.toList cs'.toList →
    LRel m ((l.zipIdx k).foldl (fun cs (c, j) => cs.setIfInBounds (off + j) c) cs).toList ((l'.zipIdx k).foldl (fun cs (c, j) => cs.setIfInBounds (off + j) c) cs').toList
  | [], [], _, _, _, _, hc => hc
  | [], v :: l', _, _, _, hl, _ => by have := hl.1; simp at this
  | v :: l, [], _, _, _, hl, _ => by have := hl.1; simp at this
  | v :: l, v' :: l', k, cs, cs', hl, hc => by
    simp only [List.zipIdx_cons, List.foldl_cons]
    refine fold_rel l l' (k + 1) _ _ ⟨by have := hl.1; simpa using this, fun i x x' h1 h2 => hl.2 (i + 1) x x' (by simpa using h1) (by simpa using h2)⟩ ?_
    simp only [Array.toList_setIfInBounds]
    exact hc.set (hl.2 0 v v' rfl rfl) _
def PRel (m : Mp) : List (Nat × Value) → List (Nat × Value) → Prop
  | [], [] => True
  | p :: r, p' :: r' => p'.1 = p.1 ∧ VRel m p.2 p'.2 ∧ PRel m r r'
  | _, _ => False
theorem fill_rel {place : Nat → Option (Nat × Nat)} : ∀ (ps ps' : List (Nat × Value)) (cs cs' r : Array Value), PRel m ps ps' → (∀ p ∈ ps, p.2.cells.toList.all plainCell = true) → LRel m cs.toList cs'.toList → Instr.fill place cs ps = some r →
    ∃ r', Instr.fill place cs' ps' = some r' ∧ LRel m r.toList r'.toList
  | [], [], cs, cs', r, _, _, hc, h => by cases h; exact ⟨cs', rfl, hc⟩
  | [], _ :: _, _, _, _, h, _, _, _ => h.elim
  | _ :: _, [], _, _, _, h, _, _, _ => h.elim
  | (i, v) :: ps, (i', v') :: ps', cs, cs', r, hp, hpl, hc, h => by
    obtain ⟨h1, h2, h3⟩ := hp
    dsimp only at h1 h2
    subst h1
    have hl := h2.cells (hpl (i', v) (by simp))
    have hsz : v'.cells.size = v.cells.size := by simpa using hl.1
    have hcs : cs'.size = cs.size := by simpa using hc.1
    unfold Instr.fill at h ⊢
    cases hpl' : place i' with
    | none => rw [hpl'] at h; cases h
    | some os =>
      obtain ⟨off, size⟩ := os
      rw [hpl'] at h
      dsimp only at h ⊢
      rw [hsz, hcs]
      split at h
      · cases h
      · rename_i hne
        rw [if_neg hne]
        refine fill_rel ps ps' _ _ r h3 (fun p hp => hpl p (by simp [hp])) ?_ h
        have := fold_rel (m := m) (off := off) v.cells.toList v'.cells.toList 0 cs cs' hl hc
        rw [← Array.foldl_toList, ← Array.foldl_toList, Array.toList_zipIdx, Array.toList_zipIdx]
        exact this
theorem fillA_some {place : Nat → Option (Nat × Nat)} {cs r : Array Value} {ps : List (Nat × Value)} (hf : fillA place cs ps = some r) : (∀ p ∈ ps, p.2.cells.toList.all plainCell = true) ∧ Instr.fill place cs ps = some r := by
  unfold fillA at hf
  cases hp : ps.all fun p => p.2.cells.toList.all plainCell
  · rw [hp] at hf; cases hf
  · rw [hp] at hf; exact ⟨fun p hp' => List.all_eq_true.1 hp p hp', hf⟩
theorem parts_rel {parts : List (Nat × Operand)} (hr : ∀ p ∈ parts, VRel m (ev e p.2) (a.eval p.2)) : PRel m (parts.map fun p => (p.1, ev e p.2)) (parts.map fun p => (p.1, a.eval p.2)) := by
  induction parts with
  | nil => trivial
  | cons p r ih => exact ⟨rfl, hr p (by simp), ih fun q hq => hr q (by simp [hq])⟩
theorem flat_lrel {z : Value} (hf : flat z = true) : LRel m z.cells.toList z.cells.toList := by
  refine ⟨rfl, fun i v v' h1 h2 => ?_⟩
  rw [h1] at h2
  cases h2
  cases z with
  | agg xs => exact .same v (List.all_eq_true.1 (flat_agg hf) v (List.mem_of_getElem? h1))
  | tuple xs =>
    cases i with
    | zero => simp [Value.cells] at h1; subst h1; exact VRel.flat hf
    | succ i => simp [Value.cells] at h1
  | _ => cases i with
    | zero => simp [Value.cells] at h1; subst h1; exact VRel.flat hf
    | succ i => simp [Value.cells] at h1
theorem sim_build {t : TypeId} {parts : Array (Nat × Operand)} (hp : Pre P ⟨dst, .build t parts, ty, pos, af, g⟩ e a B m h w p) (hs : buildS P t parts e h = some r) : Sim P ⟨dst, .build t parts, ty, pos, af, g⟩ a B m h w r := by
  have hr : PRel m (evParts e parts) (parts.map fun (i, x) => (i, a.eval x)).toList := by
    have := parts_rel (m := m) (e := e) (a := a) (parts := parts.toList) fun p hpp => hp.rel p.2 (by simp [Op.operands]; exact ⟨p.1, by simpa using hpp⟩)
    simpa [evParts] using this
  have hrun : (execOp a.eval ⟨dst, .build t parts, ty, pos, af, g⟩).run P w = (do pure (.value (← Instr.build t (parts.map fun (i, x) => (i, a.eval x)))) : Sem Next).run P w := rfl
  have fin : ∀ {place : Nat → Option (Nat × Nat)} {z : Value}, flat z = true → buildV (fillA place z.cells (evParts e parts)) = some r →
      (∀ cs, Instr.fill place z.cells (parts.map fun (i, x) => (i, a.eval x)).toList = some cs → (Instr.build t (parts.map fun (i, x) => (i, a.eval x))).run P w = .ok (.agg cs) w) → Sim P ⟨dst, .build t parts, ty, pos, af, g⟩ a B m h w r := by
    intro place z hz hb hrn
    unfold buildV at hb
    split at hb
    · rename_i cs hcs
      cases hpl : cs.toList.all plainCell
      · rw [hpl] at hb; cases hb
      · rw [hpl] at hb
        cases hb
        obtain ⟨h1, h2⟩ := fillA_some hcs
        obtain ⟨cs', h3, h4⟩ := fill_rel _ _ _ _ _ hr h1 (flat_lrel hz) h2
        exact .still (hrun.trans (run_v (hrn cs' h3))) (.mk_agg h4)
    · cases hb
  unfold buildS at hs
  cases hu : P.underlying t with
  | none => rw [hu] at hs; cases hs
  | some d =>
    cases hz : (P.info? t).bind (·.zero) with
    | none => rw [hu, hz] at hs; cases d <;> cases hs
    | some z =>
      rw [hu, hz] at hs
      cases d with
      | struct fs =>
        dsimp only at hs
        cases hpl : places P fs with
        | none => rw [hpl] at hs; cases hs
        | some ps =>
          rw [hpl] at hs
          dsimp only at hs
          cases hf : flat z
          · rw [hf] at hs; cases hs
          rw [hf] at hs
          refine fin hf hs fun cs hcs => run_build w t _ cs ?_
          have hm : fs.toList.mapM (fun f => (P.info? f.type).map fun i => (f.offset, i.size)) = some ps := by
            rw [← hpl]; unfold places szOf
            congr 1; funext f; cases P.info? f.type <;> rfl
          obtain ⟨it, hit, hzz⟩ := Option.bind_eq_some_iff.1 hz
          simp only [Program.built, hit, hu, hzz, hm]
          simpa using hcs
      | array n el =>
        dsimp only at hs
        cases hn : szOf P el with
        | none => rw [hn] at hs; cases hs
        | some sz =>
          rw [hn] at hs
          dsimp only at hs
          cases hf : flat z
          · rw [hf] at hs; cases hs
          rw [hf] at hs
          refine fin hf hs fun cs hcs => run_build w t _ cs ?_
          obtain ⟨it, hit, hzz⟩ := Option.bind_eq_some_iff.1 hz
          obtain ⟨ie, hie, rfl⟩ := Option.map_eq_some_iff.1 hn
          simp only [Program.built, hit, hu, hzz, hie]
          simpa using hcs
      | _ => cases hs
end
end Go.Am
end
section
set_option linter.unusedVariables false
set_option linter.unusedSimpArgs false
namespace Go.Am
open Go.RowKit
section
variable {P : Program} {dst : Option Tmp} {ty : TypeId} {pos : String} {af : Array Edge} {g : Option (Nat × Bool)} {e : Env} {a : Act} {B : Nat} {m : Mp} {h : Heap} {w : World} {r : Res} {p : Nat → Prop}

theorem run_loadVar {t : TypeId} {gg : Bool} {n : Nat} (hg : aggT P t = some gg) (hn : szOf P t = some n) {b o : Nat} {x : Blk} {v : Value} (hb : BRel B m w b x) (hv : cellAt gg n o x = some v) :
    ∃ v', (loadVar t ⟨(m b).blk, (m b).off + o, none⟩).run P w = .ok v' w ∧ VRel m v v' := by
  unfold cellAt at hv
  cases gg with
  | true =>
    simp only [cond_true] at hv
    obtain ⟨cs, hc, rfl⟩ := Option.map_eq_some_iff.1 hv
    obtain ⟨cs', h1, h2, h3⟩ := hb.read hc
    have hl := run_loadCells_list (P := P) w ⟨(m b).blk, (m b).off + o, none⟩ cs' h3
    rw [h2] at hl
    exact ⟨.agg cs'.toArray, by simp [loadVar, run_isAgg hg, run_szOf hn, hl], .mk_agg (by simpa using h1)⟩
  | false =>
    simp only [cond_false] at hv
    obtain ⟨v', h1, h2⟩ := hb.cell hv
    exact ⟨v', by simp [loadVar, run_isAgg hg, h1], h2⟩
theorem sim_load {t : TypeId} {x : Operand} (hp : Pre P ⟨dst, .load t x, ty, pos, af, g⟩ e a B m h w p) (hs : loadS P t x e h = some r) (hT : Reads B m h w p r.rd) : Sim P ⟨dst, .load t x, ty, pos, af, g⟩ a B m h w r := by
  have hx := hp.rel x (by simp [Op.operands])
  have hrun : (execOp a.eval ⟨dst, .load t x, ty, pos, af, g⟩).run P w = (do pure (.value (← Instr.loadAt t (a.eval x))) : Sem Next).run P w := rfl
  unfold loadS at hs
  cases hg : aggT P t with
  | none => rw [hg] at hs; cases hs
  | some gg =>
    cases hn : szOf P t with
    | none => rw [hg, hn] at hs; cases hs
    | some n =>
      rw [hg, hn] at hs
      dsimp only at hs
      unfold loadV at hs
      split at hs
      · rename_i b o hq
        obtain ⟨v, hv, rfl⟩ := Option.map_eq_some_iff.1 hs
        obtain ⟨blk, hblk, hv⟩ := Option.bind_eq_some_iff.1 hv
        have he := hx.asPtr hq
        obtain ⟨v', h1, h2⟩ := run_loadVar hg hn (hT b (by simp [Res.rd]) blk hblk).1 hv
        refine .still (v' := v') (hrun.trans (run_v ?_)) h2
        rw [he]
        simp [Instr.loadAt, run_sureAddr, h1]
      · cases hs
theorem set_done {b : Nat} {x x' : Blk} {o : Nat} {vs' : List Value} (hb : BRel B m w b x) (hro : x.ro = false) (h1 : BRel B m (w.setCells (m b).blk o vs') b x') (hro' : x'.ro = false) : Done B m m h w (w.setCells (m b).blk o vs') (.set b x') := by
  have hB : B ≤ (m b).blk := by
    obtain ⟨_, _, _, _, _, _, _, hh⟩ := hb
    rw [hro] at hh; exact hh.1
  obtain ⟨s1, s2, s3, s4⟩ := setCells_same (b := (m b).blk) vs' o w
  refine ⟨⟨s1, s2, s3, Nat.le_of_eq s4.symm, fun k hk => setCells_far _ _ _ (by omega)⟩, fun _ _ => rfl, fun _ => rfl, fun k hk hne => setCells_far _ _ _ fun hh => hne b (by simp [Eff.wr]) hh.symm, h1, hro'⟩
theorem sim_store {t : TypeId} {x y : Operand} (hp : Pre P ⟨dst, .store t x y, ty, pos, af, g⟩ e a B m h w p) (hs : storeS P t x y e h = some r) (hT : Reads B m h w p r.rd) : Sim P ⟨dst, .store t x y, ty, pos, af, g⟩ a B m h w r := by
  have hx := hp.rel x (by simp [Op.operands])
  have hy := hp.rel y (by simp [Op.operands])
  have hrun : (execOp a.eval ⟨dst, .store t x y, ty, pos, af, g⟩).run P w = (do Instr.storeAt t (a.eval x) (a.eval y); pure .skip : Sem Next).run P w := rfl
  unfold storeS at hs
  cases hn : szOf P t with
  | none => rw [hn] at hs; cases hs
  | some n =>
    rw [hn] at hs
    dsimp only at hs
    unfold storeV at hs
    split at hs
    · rename_i b o hq
      obtain ⟨x', hx', rfl⟩ := Option.map_eq_some_iff.1 hs
      obtain ⟨blk, hblk, hx'⟩ := Option.bind_eq_some_iff.1 hx'
      have he := hx.asPtr hq
      have hb := (hT b (by simp [Res.rd]) blk hblk).1
      unfold storeB at hx'
      cases hc : !blk.ro && Nat.beq (ev e y).cells.toList.length n && Nat.ble (o + n) blk.cells.length && (ev e y).cells.toList.all plainCell
      · rw [hc] at hx'; cases hx'
      · rw [hc] at hx'
        cases hx'
        simp only [Bool.and_eq_true, Bool.not_eq_true'] at hc
        obtain ⟨⟨⟨c1, c2⟩, c3⟩, c4⟩ := hc
        have c2 : (ev e y).cells.toList.length = n := Nat.eq_of_beq_eq_true c2
        have c3 := Nat.le_of_ble_eq_true c3
        have hl := hy.cells c4
        have hst := hb.run_store (P := P) (o := o) c1 (by omega) hl c4
        have hput := hb.put (o := o) (fl := blk.flat && flat (ev e y)) c1 (by omega) hl
        refine ⟨m, _, hrun.trans ?_, set_done hb c1 hput c1⟩
        rw [he]
        have hsz : (a.eval y).cells.size = n := by have := hl.1; simp only [Array.length_toList] at this c2; omega
        simp [Instr.storeAt, run_sureAddr, storeVar, run_szOf hn, hsz, hst]
    · cases hs
theorem fill_all {p : Value → Prop} {place : Nat → Option (Nat × Nat)} : ∀ (ps : List (Nat × Value)) (cs r : Array Value), (∀ q ∈ ps, ∀ v ∈ q.2.cells.toList, p v) → (∀ v ∈ cs.toList, p v) → Instr.fill place cs ps = some r → ∀ v ∈ r.toList, p v
  | [], cs, r, _, hc, hf => by cases hf; exact hc
  | (i, v) :: ps, cs, r, hp, hc, hf => by
    unfold Instr.fill at hf
    cases hpl : place i with
    | none => rw [hpl] at hf; cases hf
    | some os =>
      obtain ⟨off, size⟩ := os
      rw [hpl] at hf
      dsimp only at hf
      split at hf
      · cases hf
      · refine fill_all ps _ r (fun q hq => hp q (by simp [hq])) ?_ hf
        have key : ∀ (l : List Value) (k : Nat) (cs : Array Value), (∀ v ∈ l, p v) → (∀ v ∈ cs.toList, p v) → ∀ v ∈ ((l.zipIdx k).foldl (fun cs (c, j) => cs.setIfInBounds (off + j) c) cs).toList, p v := by
          intro l
          induction l with
          | nil => intro k cs _ hc; exact hc
          | cons x l ih =>
            intro k cs hl hc
            simp only [List.zipIdx_cons, List.foldl_cons]
            refine ih (k + 1) _ (fun v hv => hl v (by simp [hv])) fun v hv => ?_
            rw [Array.toList_setIfInBounds] at hv
            rcases List.mem_or_eq_of_mem_set hv with hv | rfl
            · exact hc v hv
            · exact hl v (by simp)
        have := key v.cells.toList 0 cs (hp (i, v) (by simp)) hc
        rw [← Array.foldl_toList, Array.toList_zipIdx]
        exact this
theorem zeros_eq (z : Array Value) (n : Nat) : zeros z n = (Array.range n).map (z[· % z.size]!) := rfl
theorem sim_buildSlice {t : TypeId} {n : Nat} {parts : Array (Nat × Operand)} (hp : Pre P ⟨dst, .buildSlice t n parts, ty, pos, af, g⟩ e a B m h w p) (hs : buildSliceS P t n parts e h = some r) (hpn : r.eff.isNew = true → ¬ p h.next) : Sim P ⟨dst, .buildSlice t n parts, ty, pos, af, g⟩ a B m h w r := by
  have hr : PRel m (evParts e parts) (parts.map fun (i, x) => (i, a.eval x)).toList := by
    have := parts_rel (m := m) (e := e) (a := a) (parts := parts.toList) fun p hpp => hp.rel p.2 (by simp [Op.operands]; exact ⟨p.1, by simpa using hpp⟩)
    simpa [evParts] using this
  have hsc : ∀ q0 ∈ evParts e parts, Sc p q0.2 := by
    intro q0 hpp
    simp only [evParts, List.mem_map] at hpp
    obtain ⟨q, hq, rfl⟩ := hpp
    exact hp.sc q.2 (by simp [Op.operands]; exact ⟨q.1, by simpa using hq⟩)
  have hrun : (execOp a.eval ⟨dst, .buildSlice t n parts, ty, pos, af, g⟩).run P w = (do pure (.value (← Instr.buildSlice t n (parts.map fun (i, x) => (i, a.eval x)))) : Sem Next).run P w := rfl
  unfold buildSliceS at hs
  cases hu : P.underlying t with
  | none => rw [hu] at hs; cases hs
  | some d =>
    rw [hu] at hs
    cases d with
    | slice el =>
      dsimp only at hs
      cases hi : P.info? el with
      | none => rw [hi] at hs; cases hs
      | some i =>
        rw [hi] at hs
        dsimp only at hs
        cases hz : i.zero with
        | none => rw [hz] at hs; cases hs
        | some z =>
          rw [hz] at hs
          dsimp only at hs
          cases hc : Nat.ble (n * i.size) 16777216 && flat z && !Nat.beq i.size 0 && z.cells.toList.all plainCell
          · rw [hc] at hs; cases hs
          · rw [hc] at hs
            simp only [Bool.and_eq_true, Bool.not_eq_true'] at hc
            obtain ⟨⟨⟨c1, c2⟩, c3⟩, c4⟩ := hc
            have c1 := Nat.le_of_ble_eq_true c1
            simp only [cond_true] at hs
            unfold buildSliceV at hs
            split at hs
            · rename_i cs hcs
              cases hpl : cs.toList.all plainCell
              · rw [hpl] at hs; cases hs
              · rw [hpl] at hs
                cases hs
                obtain ⟨h1, h2⟩ := fillA_some hcs
                have hzr : LRel m (zeros z.cells (n * i.size)).toList (zeros z.cells (n * i.size)).toList := by
                  refine ⟨rfl, fun j v v' e1 e2 => ?_⟩
                  rw [e1] at e2; cases e2
                  simp [zeros] at e1
                  obtain ⟨k, hk, rfl⟩ := e1
                  by_cases hzs : k % z.cells.size < z.cells.size
                  · rw [getElem!_pos z.cells _ hzs]
                    exact (flat_lrel (m := m) c2).2 (k % z.cells.size) _ _ (by simp [hzs]) (by simp [hzs])
                  · rw [getElem!_neg z.cells _ hzs]
                    exact .same _ rfl
                have hzs : ∀ v ∈ (zeros z.cells (n * i.size)).toList, Sc p v := by
                  intro v hv
                  simp [zeros] at hv
                  obtain ⟨k, hk, rfl⟩ := hv
                  by_cases hzs : k % z.cells.size < z.cells.size
                  · rw [getElem!_pos z.cells _ hzs]
                    exact (Sc.of_flat c2).cells _ (by simp)
                  · rw [getElem!_neg z.cells _ hzs]
                    exact .flat _ rfl
                obtain ⟨cs', h3, h4⟩ := fill_rel _ _ _ _ _ hr h1 hzr h2
                have hscs : ∀ v ∈ cs.toList, Sc p v := fill_all _ _ _ (fun q hq => (hsc q hq).cells) hzs h2
                refine ⟨upd m h.next ⟨w.heap.size, 0, cs'.size, none⟩, .slice (some ⟨w.heap.size, 0, none⟩) n n, _, hrun.trans (run_v ?_), ?_, new_block (t := el) hp.base (alloc_below hp.base _) rfl h4.take_all hscs (hpn rfl)⟩
                · have e0 : ¬ (16777216 < n * i.size) := by omega
                  have hp' : (parts.map fun x => (x.1, a.eval x.2)).toList = (parts.map fun (i, x) => (i, a.eval x)).toList := rfl
                  by_cases hh : n * i.size = 0
                  · have hz0 : zeros z.cells (n * i.size) = (Array.range (n * i.size)).map (fun x => (#[] : Array Value)[x % (#[] : Array Value).size]!) := by simp [zeros, hh]
                    rw [hz0] at h3
                    simp only [Instr.buildSlice, Sem.run_bind, run_underlying hu, Result.andThen_ok, sizeOf, typeInfo, run_program, hi, Sem.run_pure, e0, if_false, hh, if_true, pure_bind]
                    rw [hh] at h3
                    rw [h3]
                    simp [newRow]
                  · simp only [Instr.buildSlice, Sem.run_bind, run_underlying hu, Result.andThen_ok, sizeOf, typeInfo, run_program, hi, Sem.run_pure, e0, if_false, hh, zeroValue, hz]
                    rw [zeros_eq] at h3
                    rw [h3]
                    simp [newRow]
                · have := VRel.sl (m := upd m h.next ⟨w.heap.size, 0, cs'.size, none⟩) h.next 0 n n n (.inl rfl)
                  simpa [upd_same] using this
            · cases hs
    | _ => cases hs
end
end Go.Am
end
section
set_option linter.unusedVariables false
set_option linter.unusedSimpArgs false
namespace Go.Am
open Go.RowKit
section
variable {P : Program} {dst : Option Tmp} {ty : TypeId} {pos : String} {af : Array Edge} {g : Option (Nat × Bool)} {e : Env} {a : Act} {B : Nat} {m : Mp} {h : Heap} {w : World} {r : Res} {p : Nat → Prop}

theorem BRel.size {b : Nat} {x : Blk} {c : Array Value} {t : TypeId} {fr : Nat × Nat} (h1 : w.heap[(m b).blk]? = some (.cells c t fr)) (hb : BRel B m w b x) : (m b).off + x.cells.length ≤ c.size ∨ x.cells.length = 0 := by
  obtain ⟨c', t', fr', k1, _, _, k4, _⟩ := hb
  rw [h1] at k1
  cases k1
  have := k4.1
  unfold win at this
  simp at this
  omega
theorem BRel.there {b o n : Nat} {x : Blk} (hb : BRel B m w b x) (hro : x.ro = false) (hn : o + n ≤ x.cells.length) :
    (∀ j, j < n → (w.cell? ⟨(m b).blk, (m b).off + o + j, none⟩).isSome = true) ∧ (∀ j, j < n → w.frozen? ⟨(m b).blk, (m b).off + o + j, none⟩ = false) := by
  obtain ⟨c, t, fr, h1, h2, h3, h4, h5⟩ := id hb
  have := hb.size h1
  rw [hro] at h5
  obtain ⟨h5, rfl⟩ := h5
  exact ⟨fun j hj => by simp [World.cell?, h1]; omega, fun j hj => by simp [World.frozen?, h1]⟩
/-- what is appended, in both machines -/
theorem cellsOf_src {sz n : Nat} {x x' : Value} {t' e' : TypeId} {rd : List Nat} {cs : List Value} {fl : Bool} (hk : P.underlying t' = some (.slice e')) (hpl : ∀ b x, h.get b = some x → x.cells.all plainCell = true) (hx : VRel m x x')
    (hc : cellsOf h sz x = some (rd, cs, fl, n)) (hT : Reads B m h w p rd) : ∃ cs', Src P sz t' x' n cs' w ∧ LRel m cs cs' ∧ cs.length = n * sz ∧ (∀ v ∈ cs, Sc p v) ∧ cs.all plainCell = true := by
  unfold cellsOf at hc
  split at hc
  · rename_i n' c
    cases h0 : Nat.beq n' 0
    · rw [h0] at hc; cases hc
    · rw [h0] at hc
      have h0 : n' = 0 := Nat.eq_of_beq_eq_true h0
      subst h0
      cases hc
      have := VRel.of_flatCell rfl hx
      subst this
      exact ⟨[], Src.ofNil w hk c, .nil, by simp, fun v hv => (by cases hv), rfl⟩
  · rename_i b o n' c
    obtain ⟨blk, hblk, hc⟩ := Option.bind_eq_some_iff.1 hc
    obtain ⟨cs1, hcs, hc⟩ := Option.map_eq_some_iff.1 hc
    cases hc
    obtain ⟨c', rfl, _⟩ := hx.sl_inv
    have hb := (hT b (by simp) blk hblk).1
    obtain ⟨cs', h1, h2, h3⟩ := hb.read hcs
    have hmem : ∀ v ∈ cs, v ∈ blk.cells := by
      obtain ⟨_, rfl⟩ := cut_some hcs
      exact fun v hv => List.mem_of_mem_drop (List.mem_of_mem_take hv)
    have hpc : cs.all plainCell = true := List.all_eq_true.2 fun v hv => List.all_eq_true.1 (hpl b blk hblk) v (hmem v hv)
    exact ⟨cs', Src.ofSlice w hk _ n c' cs' h2 h3 (fun u hu => one_of_plain (List.all_eq_true.1 (h1.plain hpc) u hu)), h1, cut_len hcs, fun v hv => (hT b (by simp) blk hblk).2 v (hmem v hv), hpc⟩
  · cases hc
theorem appendTo_rd {sz bytes n : Nat} {s : Value} {rd : List Nat} {cs : List Value} {fl : Bool} {h : Heap} {r : Res} (hs : appendTo h sz bytes s rd cs fl n = some r) : ∀ b ∈ rd, b ∈ r.rd := by
  intro b hb
  unfold appendTo at hs
  split at hs
  · rename_i len cap
    cases hq : Nat.beq len 0 && Nat.beq cap 0
    · rw [hq] at hs; cases hs
    · rw [hq] at hs
      cases hn : Nat.beq n 0
      · rw [hn] at hs
        cases hm : Nat.ble (n * bytes) 140737488355328
        · rw [hm] at hs; cases hs
        · rw [hm] at hs; cases hs; exact hb
      · rw [hn] at hs; cases hs; exact hb
  · rename_i b' o len cap
    obtain ⟨blk, hblk, hs⟩ := Option.bind_eq_some_iff.1 hs
    cases hn : Nat.beq n 0
    · rw [hn] at hs
      simp only [cond_false] at hs
      cases hr : Nat.ble (len + n) cap
      · rw [hr] at hs
        simp only [cond_false] at hs
        cases hm : Nat.ble ((len + n) * bytes) 140737488355328
        · rw [hm] at hs; cases hs
        · rw [hm] at hs
          obtain ⟨old, hold, hs⟩ := Option.bind_eq_some_iff.1 hs
          split at hs
          · cases hs; exact List.mem_cons_of_mem _ hb
          · rename_i gr _
            cases hgr : Nat.beq gr sz && !blk.ro
            · rw [hgr] at hs; cases hs
            · rw [hgr] at hs; cases hs; exact List.mem_cons_of_mem _ hb
      · rw [hr] at hs
        simp only [cond_true] at hs
        cases hm : !blk.ro && Nat.ble (o + (len + n) * sz) blk.cells.length
        · rw [hm] at hs; cases hs
        · rw [hm] at hs; cases hs; exact List.mem_cons_of_mem _ hb
    · rw [hn] at hs
      simp only [cond_true] at hs
      cases hm : Nat.ble len cap
      · rw [hm] at hs; cases hs
      · rw [hm] at hs; cases hs; exact List.mem_cons_of_mem _ hb
  · cases hs
theorem size_zeroCells (z : Array Value) (n : Nat) : (Builtin.zeroCells z n).size = n * z.size := by simp [Builtin.zeroCells]
theorem le_grown (w : World) (need old : Nat) (el : TypeId) : need ≤ grownCap w need old el := by
  unfold grownCap; exact Nat.le_add_right _ _
theorem run_append_nil0 {t tx ty el : TypeId} {i : TypeInfo} {x : Value} {news : List Value} (ht : P.underlying t = some (.slice el)) (hi : P.info? el = some i) (hs : Src P i.size tx x 0 news w) :
    (Builtin.append_ #[t, tx] ty #[.slice none 0 0, x]).run P w = .ok (.slice none 0 0) w := by
  rcases hs.kind with ⟨e', hk⟩ | hk <;> simp [Builtin.append_, run_underlying ht, run_underlying hk, sizeOf, typeInfo, hi, hs.len, hs.cells]
theorem drew_eq (w : World) : w.drew.heap = w.heap := rfl
theorem Below_drew_alloc (hB : B ≤ w.heap.size) (o : Obj) : Below B w (w.drew.alloc o) := ((Below.refl B w).drew).alloc hB o
/-- a new row: what was there, what is appended, and zeros -/
theorem grown_block {cs cs' : List Value} {z : Array Value} {k : Nat} {el : TypeId} {fl : Bool} {gr : Option Nat} (hB : B ≤ w.heap.size) (hl : LRel m cs cs') (hs : ∀ v ∈ cs, Sc p v) (hpn : ¬ p h.next) :
    Done B m (upd m h.next ⟨w.heap.size, 0, (cs'.toArray ++ Builtin.zeroCells z k).size, gr⟩) h w (w.drew.alloc (.cells (cs'.toArray ++ Builtin.zeroCells z k) el)) (.new ⟨cs, fl, false, gr⟩) := by
  refine new_block hB (Below_drew_alloc hB _) rfl ?_ hs hpn
  have : (cs'.toArray ++ Builtin.zeroCells z k).toList.take cs.length = cs' := by
    simp only [Array.toList_append, List.toList_toArray]
    rw [List.take_append_of_le_length (by rw [hl.1]; exact Nat.le_refl _), List.take_of_length_le (by rw [hl.1]; exact Nat.le_refl _)]
  rw [this]; exact hl
theorem mul_room {len n cap sz : Nat} (hr : len + n ≤ cap) : len * sz + n * sz ≤ cap * sz := by rw [← Nat.add_mul]; exact Nat.mul_le_mul_right _ hr
theorem new_to_mv {b k : Nat} {m' : Mp} {w' : World} {x : Blk} (hd : Done B m m' h w w' (.new x)) : Done B m m' h w w' (.mv b x) :=
  ⟨hd.below, hd.keep, fun hh => (by cases hh), fun k hk _ => hd.far k hk (by simp [Eff.wr]), hd.eff.1, .inr hd.eff.2.1, hd.eff.2.2⟩
theorem sim_append {s x : Operand} {t t' : TypeId} (hp : Pre P ⟨dst, .call ⟨.builtin .append, #[s, x], #[t, t']⟩, ty, pos, af, g⟩ e a B m h w p) (hs : appendS P t t' s x e h = some r) (hT : Reads B m h w p r.rd) (hpn : r.eff.isNew = true → ¬ p h.next) :
    Sim P ⟨dst, .call ⟨.builtin .append, #[s, x], #[t, t']⟩, ty, pos, af, g⟩ a B m h w r := by
  have hsr := hp.rel s (by simp [Op.operands, Call.operands])
  have hxr := hp.rel x (by simp [Op.operands, Call.operands])
  have hrun : (execOp a.eval ⟨dst, .call ⟨.builtin .append, #[s, x], #[t, t']⟩, ty, pos, af, g⟩).run P w = (do pure (.value (← Builtin.append_ #[t, t'] ty #[a.eval s, a.eval x])) : Sem Next).run P w := by
    rw [run_builtin]; simp [builtin]
  unfold appendS at hs
  cases hk : P.underlying t' with
  | none => rw [hk] at hs; cases hs
  | some d' =>
  cases d' with
  | slice e' =>
    cases ht : P.underlying t with
    | none => rw [hk, ht] at hs; cases hs
    | some d =>
    cases d with
    | slice el =>
      rw [hk, ht] at hs
      dsimp only at hs
      cases hi : P.info? el with
      | none => rw [hi] at hs; cases hs
      | some i =>
        rw [hi] at hs
        dsimp only at hs
        cases hz : i.zero with
        | none => rw [hz] at hs; cases hs
        | some z =>
          rw [hz] at hs
          dsimp only at hs
          cases hc : !Nat.beq i.size 0 && !Nat.beq i.bytes 0 && Nat.beq z.cells.size i.size
          · rw [hc] at hs; cases hs
          · rw [hc] at hs
            simp only [Bool.and_eq_true, Bool.not_eq_true'] at hc
            obtain ⟨⟨c1, c2⟩, c3⟩ := hc
            have c1 : 0 < i.size := Nat.pos_of_ne_zero fun hh => by rw [hh] at c1; cases c1
            have c2 : 0 < i.bytes := Nat.pos_of_ne_zero fun hh => by rw [hh] at c2; cases c2
            have c3 : z.cells.size = i.size := Nat.eq_of_beq_eq_true c3
            simp only [cond_true] at hs
            unfold appendV at hs
            split at hs
            · rename_i rd cs fl n hcs
              have hrd : ∀ b ∈ rd, b ∈ r.rd := appendTo_rd hs
              obtain ⟨cs', hsrc, hl, hlen, hsc, hpc⟩ := cellsOf_src (w := w) hk hp.plain hxr hcs fun b hb => hT b (hrd b hb)
              clear hrd
              unfold appendTo at hs
              split at hs
              · rename_i len cap hes
                rw [hes] at hsr
                have hsr := VRel.of_flatCell rfl hsr
                cases hq : Nat.beq len 0 && Nat.beq cap 0
                · rw [hq] at hs; cases hs
                rw [hq] at hs
                rw [Bool.and_eq_true] at hq
                have h1 : len = 0 := Nat.eq_of_beq_eq_true hq.1
                have h2 : cap = 0 := Nat.eq_of_beq_eq_true hq.2
                subst h1; subst h2
                simp only [cond_true] at hs
                cases hn : Nat.beq n 0
                · rw [hn] at hs
                  have hn0 : 0 < n := Nat.pos_of_ne_zero fun hh => by rw [hh] at hn; cases hn
                  simp only [cond_false] at hs
                  cases hm : Nat.ble (n * i.bytes) 140737488355328
                  · rw [hm] at hs; cases hs
                  · rw [hm] at hs
                    cases hs
                    have hm := Nat.le_of_ble_eq_true hm
                    have hnb : n ≤ n * i.bytes := Nat.le_mul_of_pos_right _ c2
                    have hgrow := run_append_grow_src (P := P) w t t' ty el i z ht hi hz none 0 0 [] (by simp [Builtin.firstCells]) (a.eval x) n cs' hsrc (by omega) (by omega) (growslice_fits (by omega) (by simpa using hm))
                    simp only [Nat.zero_add, List.nil_append] at hgrow
                    refine ⟨_, _, _, hrun.trans (run_v (by rw [hsr]; exact hgrow)), ?_, grown_block hp.base hl hsc (hpn rfl)⟩
                    have := VRel.sl (m := upd m h.next ⟨w.heap.size, 0, (cs'.toArray ++ Builtin.zeroCells z.cells (grownCap w n 0 el - n)).size, some i.size⟩) h.next 0 n n (grownCap w n 0 el)
                      (.inr ⟨i.size, by rw [upd_same], le_grown _ _ _ _, by
                        rw [upd_same]
                        have hg := le_grown w n 0 el
                        simp only [Array.size_append, size_zeroCells, c3, List.size_toArray, hsrc.newsLen, Nat.zero_add]
                        rw [← Nat.add_mul]
                        exact Nat.mul_le_mul_right _ (by omega)⟩)
                    simpa [upd_same] using this
                · rw [hn] at hs
                  have hn : n = 0 := Nat.eq_of_beq_eq_true hn
                  subst hn
                  cases hs
                  refine .still (v' := .slice none 0 0) (hrun.trans (run_v ?_)) (by rw [hes]; exact .same _ rfl)
                  rw [hsr]
                  exact run_append_nil0 ht hi hsrc
              · rename_i b o len cap hes
                rw [hes] at hsr
                obtain ⟨c', hsv, hcap⟩ := hsr.sl_inv
                have hcc : cap ≤ c' := by rcases hcap with rfl | ⟨_, _, hh, _⟩ <;> omega
                obtain ⟨blk, hblk, hs⟩ := Option.bind_eq_some_iff.1 hs
                cases hn : Nat.beq n 0
                · rw [hn] at hs
                  have hn0 : 0 < n := Nat.pos_of_ne_zero fun hh => by rw [hh] at hn; cases hn
                  simp only [cond_false] at hs
                  cases hr : Nat.ble (len + n) cap
                  · rw [hr] at hs
                    have hr' : cap < len + n := by
                      rcases Nat.lt_or_ge cap (len + n) with hh | hh
                      · exact hh
                      · rw [Nat.ble_eq_true_of_le hh] at hr; cases hr
                    simp only [cond_false] at hs
                    cases hm : Nat.ble ((len + n) * i.bytes) 140737488355328
                    · rw [hm] at hs; cases hs
                    rw [hm] at hs
                    have hm := Nat.le_of_ble_eq_true hm
                    have hnb : len + n ≤ (len + n) * i.bytes := Nat.le_mul_of_pos_right _ c2
                    obtain ⟨old, hold, hs⟩ := Option.bind_eq_some_iff.1 hs
                    -- a new row in the model
                    have hnew : ∀ (hb : BRel B m w b blk) (hcb : ∀ v ∈ blk.cells, Sc p v) (hpn' : ¬ p h.next) (hgr : c' < len + n), ∃ m' v' w', (Builtin.append_ #[t, t'] ty #[.slice (some ⟨(m b).blk, (m b).off + o, none⟩) len c', a.eval x]).run P w = .ok v' w' ∧
                        VRel m' (.slice (some ⟨h.next, 0, none⟩) (len + n) (len + n)) v' ∧ Done B m m' h w w' (.new ⟨old ++ cs, blk.flat && fl, false, some i.size⟩) := by
                      intro hb hcb hpn' hgr
                      obtain ⟨old', ho1, ho2, ho3⟩ := hb.read hold
                      have hgrow := run_append_grow_src (P := P) w t t' ty el i z ht hi hz (some ⟨(m b).blk, (m b).off + o, none⟩) len c' old'
                        (run_firstCells_some w.drew i.size len _ len c' old' ho2 (by simpa using ho3)) (a.eval x) n cs' hsrc hgr (by omega) (growslice_fits hgr hm)
                      have hso : ∀ v ∈ old ++ cs, Sc p v := by
                        intro v hv
                        rcases List.mem_append.1 hv with hv | hv
                        · obtain ⟨_, rfl⟩ := cut_some hold
                          exact hcb v (List.mem_of_mem_drop (List.mem_of_mem_take hv))
                        · exact hsc v hv
                      refine ⟨_, _, _, hgrow, ?_, grown_block hp.base (ho1.append hl) hso hpn'⟩
                      have := VRel.sl (m := upd m h.next ⟨w.heap.size, 0, ((old' ++ cs').toArray ++ Builtin.zeroCells z.cells (grownCap w (len + n) c' el - (len + n))).size, some i.size⟩) h.next 0 (len + n) (len + n) (grownCap w (len + n) c' el)
                        (.inr ⟨i.size, by rw [upd_same], le_grown _ _ _ _, by
                          rw [upd_same]
                          have hg := le_grown w (len + n) c' el
                          simp only [Array.size_append, size_zeroCells, c3, List.size_toArray, List.length_append, hsrc.newsLen, ho2, Nat.zero_add]
                          rw [← Nat.add_mul, ← Nat.add_mul]
                          exact Nat.mul_le_mul_right _ (by omega)⟩)
                      simpa [upd_same] using this
                    split at hs
                    · rename_i hgn
                      cases hs
                      obtain ⟨hb, hcb⟩ := hT b (by simp [Res.rd]) blk hblk
                      have : c' = cap := by
                        rcases hcap with rfl | ⟨gr, hgr, _⟩
                        · rfl
                        · obtain ⟨_, _, _, _, hgb, _⟩ := hb
                          rw [hgr, hgn] at hgb; cases hgb
                      obtain ⟨m', v', w', k1, k2, k3⟩ := hnew hb hcb (hpn rfl) (by omega)
                      exact ⟨m', v', w', hrun.trans (run_v (by rw [hsv]; exact k1)), k2, k3⟩
                    · rename_i gr hgn
                      cases hgs : Nat.beq gr i.size && !blk.ro
                      · rw [hgs] at hs; cases hs
                      · rw [hgs] at hs
                        rw [Bool.and_eq_true, Bool.not_eq_true'] at hgs
                        obtain ⟨hgs, hro⟩ := hgs
                        have hgs : gr = i.size := Nat.eq_of_beq_eq_true hgs
                        subst hgs
                        cases hs
                        obtain ⟨hb, hcb⟩ := hT b (by simp [Res.rd]) blk hblk
                        rcases Nat.lt_or_ge c' (len + n) with hlt | hge
                        · obtain ⟨m', v', w', k1, k2, k3⟩ := hnew hb hcb (hpn rfl) hlt
                          exact ⟨m', v', w', hrun.trans (run_v (by rw [hsv]; exact k1)), k2, new_to_mv (k := 0) k3⟩
                        · -- in place
                          have hlim : (m b).grow = some i.size ∧ o + c' * i.size ≤ (m b).lim := by
                            rcases hcap with rfl | ⟨gr, hgr, _, hh⟩
                            · omega
                            · have hgb := hb
                              obtain ⟨_, _, _, _, hgb, _⟩ := hgb
                              rw [hgr, hgn] at hgb
                              cases hgb
                              exact ⟨hgr, hh⟩
                          obtain ⟨c, tt, fr, b1, b2, b3, b4, b5⟩ := id hb
                          rw [hro] at b5
                          obtain ⟨b5, rfl⟩ := b5
                          have hmr := mul_room (sz := i.size) hge
                          obtain ⟨hcl, rfl⟩ := cut_some hold
                          have hsize := hb.size b1
                          have hcsl : cs'.length = n * i.size := hsrc.newsLen
                          have hroom := run_append_room_src (P := P) w t t' ty el i ht hi (m b).blk ((m b).off + o) len c' (a.eval x) n cs' hsrc hge
                            (fun j hj => by simp [World.cell?, b1]; omega) (fun j hj => by simp [World.frozen?, b1])
                          obtain ⟨c2', d1, d2⟩ := setCells_at cs' ((m b).off + o + len * i.size) w c b1 (by omega)
                          have d3 : c2'.size = c.size := by
                            have := congrArg List.length d2
                            simp at this
                            omega
                          obtain ⟨s1, s2, s3, s4⟩ := setCells_same (b := (m b).blk) cs' ((m b).off + o + len * i.size) w
                          refine ⟨upd m h.next ⟨(m b).blk, (m b).off + o, (m b).lim - o, some i.size⟩, _, _, hrun.trans (run_v (by rw [hsv]; exact hroom)), ?_, ⟨⟨s1, s2, s3, Nat.le_of_eq s4.symm, fun k hk => setCells_far _ _ _ (by omega)⟩, fun k hk => upd_ne m _ hk, fun hh => (by cases hh), fun k hk hne => setCells_far _ _ _ fun hh => hne b (by simp [Eff.wr]) hh.symm, ⟨c2', tt, (0, 0), ?_, ?_, ?_, ?_, ?_⟩, ?_, rfl⟩⟩
                          · have := VRel.sl (m := upd m h.next ⟨(m b).blk, (m b).off + o, (m b).lim - o, some i.size⟩) h.next 0 (len + n) (len + n) c' (.inr ⟨i.size, by rw [upd_same], hge, by rw [upd_same]; simp only; omega⟩)
                            simpa [upd_same] using this
                          · rw [upd_same]; exact d1
                          · rw [upd_same]
                          · rw [upd_same]; simp only; omega
                          · rw [upd_same]
                            have hlen2 : (List.take (len * i.size) (List.drop o blk.cells) ++ cs).length = len * i.size + n * i.size := by simp; omega
                            have hw1 : win c2' ((m b).off + o) (List.take (len * i.size) (List.drop o blk.cells) ++ cs).length = (win c (m b).off blk.cells.length |>.drop o).take (len * i.size) ++ cs' := by
                              rw [hlen2]
                              unfold win
                              rw [d2, List.append_assoc, List.drop_append, List.drop_take, List.length_take, List.take_append]
                              have e1 : (m b).off + o + len * i.size - ((m b).off + o) = len * i.size := by omega
                              have e2 : (m b).off + o - min ((m b).off + o + len * i.size) c.toList.length = 0 := by simp; omega
                              rw [e1, e2, List.drop_zero, List.take_take, List.length_take, List.length_drop, List.take_append]
                              have e3 : len * i.size + n * i.size - min (len * i.size) (c.toList.length - ((m b).off + o)) = cs'.length := by simp; omega
                              rw [e3, List.take_of_length_le (Nat.le_refl _), Nat.sub_self, List.take_zero, List.append_nil, Nat.min_eq_right (by omega), List.drop_take, List.drop_drop, List.take_take]
                              rw [Nat.min_eq_left (by omega : len * i.size ≤ blk.cells.length - o)]
                            rw [hw1]
                            exact (((b4.drop o).take _).append hl).moved (p := p) (fun k hk => upd_ne m _ fun hh => hpn rfl (by rw [← hh]; exact hk)) (by
                              intro v hv
                              rcases List.mem_append.1 hv with hv | hv
                              · exact hcb v (List.mem_of_mem_drop (List.mem_of_mem_take hv))
                              · exact hsc v hv)
                          · simp [upd_same]; exact b5
                          · rw [upd_same]; exact .inl rfl
                  · rw [hr] at hs
                    have hr := Nat.le_of_ble_eq_true hr
                    simp only [cond_true] at hs
                    cases hm : !blk.ro && Nat.ble (o + (len + n) * i.size) blk.cells.length
                    · rw [hm] at hs; cases hs
                    · rw [hm] at hs
                      rw [Bool.and_eq_true, Bool.not_eq_true'] at hm
                      obtain ⟨hro, hm⟩ := hm
                      have hm := Nat.le_of_ble_eq_true hm
                      cases hs
                      obtain ⟨hb, hcb⟩ := hT b (by simp [Res.rd]) blk hblk
                      have e1 : (len + n) * i.size = len * i.size + n * i.size := Nat.add_mul _ _ _
                      obtain ⟨t1, t2⟩ := hb.there (o := o + len * i.size) (n := n * i.size) hro (by omega)
                      have hroom := run_append_room_src (P := P) w t t' ty el i ht hi (m b).blk ((m b).off + o) len c' (a.eval x) n cs' hsrc (by omega)
                        (fun j hj => by have := t1 j (by rw [hsrc.newsLen] at hj; exact hj); rwa [← Nat.add_assoc] at this) (fun j hj => by have := t2 j (by rw [hsrc.newsLen] at hj; exact hj); rwa [← Nat.add_assoc] at this)
                      have hput := hb.put (o := o + len * i.size) (fl := blk.flat && fl) hro (by omega) hl
                      rw [← Nat.add_assoc] at hput
                      refine ⟨m, _, _, hrun.trans (run_v (by rw [hsv]; exact hroom)), .sl b o (len + n) cap c' hcap, set_done hb hro hput hro⟩
                · rw [hn] at hs
                  have hn : n = 0 := Nat.eq_of_beq_eq_true hn
                  subst hn
                  simp only [cond_true] at hs
                  cases hm : Nat.ble len cap
                  · rw [hm] at hs; cases hs
                  · rw [hm] at hs
                    have hm := Nat.le_of_ble_eq_true hm
                    cases hs
                    have h0 : cs' = [] := List.eq_nil_of_length_eq_zero (by rw [hsrc.newsLen]; simp)
                    subst h0
                    have hroom := run_append_room_src (P := P) w t t' ty el i ht hi (m b).blk ((m b).off + o) len c' (a.eval x) 0 [] hsrc (by omega) (fun j hj => by simp at hj) (fun j hj => by simp at hj)
                    refine .still (v' := .slice (some ⟨(m b).blk, (m b).off + o, none⟩) len c') (hrun.trans (run_v ?_)) (by rw [hes]; exact .sl b o len cap c' hcap)
                    rw [hsv]
                    simpa [World.setCells] using hroom
              · cases hs
            · cases hs
    | _ => rw [hk, ht] at hs; cases hs
  | _ => rw [hk] at hs; cases ht : P.underlying t <;> rw [ht] at hs <;> cases hs
end
end Go.Am
end
section
set_option linter.unusedVariables false
set_option linter.unusedSimpArgs false
namespace Go.Am
open Go.RowKit
section
variable {P : Program} {dst : Option Tmp} {ty : TypeId} {pos : String} {af : Array Edge} {g : Option (Nat × Bool)} {e : Env} {a : Act} {B : Nat} {m : Mp} {h : Heap} {w : World} {r : Res} {p : Nat → Prop}

theorem LRel.of_arrays {xs ys : Array Value} (hs : ys.size = xs.size) (hr : ∀ (i : Nat) (v v' : Value), xs[i]? = some v → ys[i]? = some v' → VRel m v v') : LRel m xs.toList ys.toList :=
  ⟨by simpa using hs, fun i v v' h1 h2 => hr i v v' (by simpa using h1) (by simpa using h2)⟩
theorem map_rel {l : List Operand} (hr : ∀ x ∈ l, VRel m (ev e x) (a.eval x)) : LRel m (l.map (ev e)) (l.map a.eval) := by
  induction l with
  | nil => exact .nil
  | cons x l ih => exact .cons (hr x (by simp)) (ih fun y hy => hr y (by simp [hy]))
theorem sim_call {f : Operand} {args : Array Operand} {ts : Array TypeId} (hp : Pre P ⟨dst, .call ⟨.value f, args, ts⟩, ty, pos, af, g⟩ e a B m h w p) (hs : callS P f args e h = some r) :
    Sim P ⟨dst, .call ⟨.value f, args, ts⟩, ty, pos, af, g⟩ a B m h w r := by
  have hf := hp.rel f (by simp [Op.operands, Call.operands])
  have hargs : LRel m (args.toList.map (ev e)) (args.toList.map a.eval) := map_rel fun x hx => hp.rel x (by simp [Op.operands, Call.operands]; exact .inr (by simpa using hx))
  unfold callS at hs
  split at hs
  · rename_i gg first captured he
    cases hb : hasBody P gg
    · rw [hb] at hs; cases hs
    · rw [hb] at hs
      cases hs
      rw [he] at hf
      obtain ⟨u, hu⟩ : ∃ u, a.eval f = u := ⟨_, rfl⟩
      rw [hu] at hf
      cases hf with
      | same _ hh => cases hh
      | func _ _ xs' _ ys' hs1 h1 hs2 h2 =>
        refine ⟨xs'.toList ++ args.toList.map a.eval ++ ys'.toList, ?_, ((LRel.of_arrays hs1 h1).append hargs).append (LRel.of_arrays hs2 h2)⟩
        unfold hasBody at hb
        split at hb
        · rename_i fn hfn
          rw [Bool.and_eq_true] at hb
          obtain ⟨hb1, hb2⟩ := hb
          have hn : (fn.name == "runtime.NumGoroutine") = false := by simpa using hb2
          have hbn : fn.body.isNone = false := by cases hq : fn.body <;> simp_all
          simp only [execOp, resolve, Sem.run_bind, hu, Deferred.ofValue, Sem.run_pure, Result.andThen_ok, invoke, callFunc, run_program, hfn, hn, hbn, Bool.false_eq_true, if_false]
          congr 2
          apply Array.ext'
          simp
        · cases hb
  · cases hs
theorem sim_makeFunc {f : FuncId} {first captured : Array Operand} (hp : Pre P ⟨dst, .makeFunc (.func f) first captured, ty, pos, af, g⟩ e a B m h w p) (hs : makeFuncS f first captured e h = some r) :
    Sim P ⟨dst, .makeFunc (.func f) first captured, ty, pos, af, g⟩ a B m h w r := by
  cases hs
  refine .still (v' := .func (.func f) (first.map a.eval) (captured.map a.eval)) (run_v rfl) (.func _ _ _ _ _ (by simp) (fun i v v' h1 h2 => ?_) (by simp) fun i v v' h1 h2 => ?_)
  · rw [Array.getElem?_map] at h1 h2
    obtain ⟨x, hx, rfl⟩ := Option.map_eq_some_iff.1 h1
    rw [hx] at h2
    cases h2
    exact hp.rel x (by have := Array.mem_of_getElem? hx; simp [Op.operands, this])
  · rw [Array.getElem?_map] at h1 h2
    obtain ⟨x, hx, rfl⟩ := Option.map_eq_some_iff.1 h1
    rw [hx] at h2
    cases h2
    exact hp.rel x (by have := Array.mem_of_getElem? hx; simp [Op.operands, this])
theorem zeros_flat {z : Value} {n : Nat} (hf : flat z = true) (hpl : z.cells.toList.all plainCell = true) : ∀ v ∈ (zeros z.cells n).toList, flatCell v = true ∧ plainCell v = true := by
  intro v hv
  simp [zeros] at hv
  obtain ⟨k, hk, rfl⟩ := hv
  by_cases hzs : k % z.cells.size < z.cells.size
  · rw [getElem!_pos z.cells _ hzs]
    have hm : z.cells[k % z.cells.size] ∈ z.cells.toList := by simp
    exact ⟨flat_cells hf hpl _ hm, List.all_eq_true.1 hpl _ hm⟩
  · rw [getElem!_neg z.cells _ hzs]
    exact ⟨rfl, rfl⟩
theorem sim_makeSlice {t : TypeId} {l c : Operand} (hp : Pre P ⟨dst, .makeSlice t l c, ty, pos, af, g⟩ e a B m h w p) (hs : makeSliceS P t l c e h = some r) (hpn : r.eff.isNew = true → ¬ p h.next) :
    Sim P ⟨dst, .makeSlice t l c, ty, pos, af, g⟩ a B m h w r := by
  have hlr := hp.rel l (by simp [Op.operands])
  have hcr := hp.rel c (by simp [Op.operands])
  unfold makeSliceS at hs
  cases hu : P.underlying t with
  | none => rw [hu] at hs; cases hs
  | some d =>
    rw [hu] at hs
    cases d with
    | slice el =>
      dsimp only at hs
      cases hi : P.info? el with
      | none => rw [hi] at hs; cases hs
      | some i =>
        rw [hi] at hs
        dsimp only at hs
        cases hz : i.zero with
        | none => rw [hz] at hs; cases hs
        | some z =>
          rw [hz] at hs
          dsimp only at hs
          cases hc : flat z && !Nat.beq i.size 0 && z.cells.toList.all plainCell && Nat.beq z.cells.size i.size
          · rw [hc] at hs; cases hs
          · rw [hc] at hs
            simp only [Bool.and_eq_true, Bool.not_eq_true'] at hc
            obtain ⟨⟨⟨c1, c2⟩, c3⟩, c4⟩ := hc
            simp only [cond_true] at hs
            unfold makeV at hs
            split at hs
            · rename_i nl nc hl hcc
              obtain ⟨kl, hl'⟩ := hlr.asI hl
              obtain ⟨kc, hc'⟩ := hcr.asI hcc
              cases hb : Nat.ble nl nc && Nat.ble (nc * i.bytes) 16777216 && Nat.ble (nc * i.size) 16777216 && Nat.ble nc 16777216
              · rw [hb] at hs; cases hs
              · rw [hb] at hs
                cases hs
                simp only [Bool.and_eq_true] at hb
                obtain ⟨⟨⟨b1, b2⟩, b3⟩, b4⟩ := hb
                have b1 := Nat.le_of_ble_eq_true b1
                have b2 := Nat.le_of_ble_eq_true b2
                have b4 := Nat.le_of_ble_eq_true b4
                have hrun := run_make (P := P) w t el i z hu hi hz kl kc (Int.ofNat nl) (Int.ofNat nc) (Int.natCast_nonneg nl) (by show (nl : Int) ≤ (nc : Int); omega)
                  (by
                    have e : ((nc * i.bytes : Nat) : Int) = (i.bytes : Int) * (nc : Int) := by rw [Int.natCast_mul, Int.mul_comm]
                    show (i.bytes : Int) * (nc : Int) ≤ _
                    omega) (by show (nc : Int) ≤ _; omega)
                have hzz : ∀ v ∈ (zeros z.cells (nc * i.size)).toList, flatCell v = true := fun v hv => (zeros_flat c1 c3 v hv).1
                have hlr2 : LRel m (zeros z.cells (nc * i.size)).toList (zeros z.cells (nc * i.size)).toList := by
                  refine ⟨rfl, fun j v v' e1 e2 => ?_⟩
                  rw [e1] at e2; cases e2
                  exact .same v (hzz v (List.mem_of_getElem? e1))
                refine ⟨upd m h.next ⟨w.heap.size, 0, (zeros z.cells (nc * i.size)).size, none⟩, .slice (some ⟨w.heap.size, 0, none⟩) nl nc, _, ?_, ?_, new_block (t := el) hp.base (alloc_below hp.base _) rfl hlr2.take_all (fun v hv => Sc.flat v (hzz v hv)) (hpn rfl)⟩
                · show (do pure (.value (← Instr.makeSlice t (a.eval l) (a.eval c))) : Sem Next).run P w = _
                  refine run_v ?_
                  rw [hl', hc']
                  exact hrun
                · have := VRel.sl (m := upd m h.next ⟨w.heap.size, 0, (zeros z.cells (nc * i.size)).size, none⟩) h.next 0 nl nc nc (.inl rfl)
                  simpa [upd_same] using this
            · cases hs
    | _ => cases hs
theorem intsA_some : ∀ {cs : List Value} {xs : List Int}, intsA cs = some xs → cs = xs.map (Value.int .u8)
  | [], xs, h => by cases h; rfl
  | v :: r, xs, h => by
    unfold intsA at h
    split at h
    · rename_i hh; cases hh
    · rename_i n r' hh
      cases hh
      obtain ⟨ys, hy, rfl⟩ := Option.map_eq_some_iff.1 h
      rw [intsA_some hy]
      rfl
    · cases h
theorem sim_convert {s d : TypeId} {x : Operand} (hp : Pre P ⟨dst, .convert s d x, ty, pos, af, g⟩ e a B m h w p) (hs : convertS P ⟨dst, .convert s d x, ty, pos, af, g⟩ s d x e h = some r) (hT : Reads B m h w p r.rd) :
    Sim P ⟨dst, .convert s d x, ty, pos, af, g⟩ a B m h w r := by
  unfold convertS at hs
  cases hb : isBytes P s d
  · rw [hb] at hs; exact sim_pure (fun _ _ hh => by cases hh) hp hs
  · rw [hb] at hs
    simp only [cond_true] at hs
    have hx := hp.rel x (by simp [Op.operands])
    unfold isBytes at hb
    split at hb
    · rename_i el hsu hdu
      split at hb
      · rename_i heu
        unfold convB at hs
        split at hs
        · rename_i l c he
          cases hs
          rw [he] at hx
          have hx := VRel.of_flatCell rfl hx
          refine .still (v' := .string .empty) ?_ (.same _ rfl)
          show (do pure (.value (← convert s d (a.eval x))) : Sem Next).run P w = _
          refine run_v ?_
          rw [hx]
          exact run_convert_bytes_nil w s el hsu heu l c d hdu
        · rename_i b o n c he
          rw [he] at hx
          obtain ⟨c', hsv, _⟩ := hx.sl_inv
          obtain ⟨blk, hblk, hs⟩ := Option.bind_eq_some_iff.1 hs
          obtain ⟨cs, hcs, hs⟩ := Option.bind_eq_some_iff.1 hs
          obtain ⟨str, hstr, hs⟩ := Option.map_eq_some_iff.1 hs
          cases hs
          unfold bytesA at hstr
          obtain ⟨xs, hxs, rfl⟩ := Option.map_eq_some_iff.1 hstr
          have e1 := intsA_some hxs
          obtain ⟨hbr, _⟩ := hT b (by simp [Res.rd]) blk hblk
          obtain ⟨cs', h1, h2, h3⟩ := hbr.read hcs
          have hfl : ∀ v ∈ cs, flatCell v = true := fun v hv => by rw [e1] at hv; obtain ⟨q, _, rfl⟩ := List.mem_map.1 hv; rfl
          have e2 := h1.of_eq hfl
          subst e2
          have hlen : xs.length = n := by rw [← h2, e1, List.length_map]
          refine .still (v' := .string (strOfNums xs)) ?_ (.same _ rfl)
          show (do pure (.value (← convert s d (a.eval x))) : Sem Next).run P w = _
          refine run_v ?_
          rw [hsv]
          refine run_convert_bytes_arg w s el hsu heu _ _ n c' xs hlen (fun i hi => ?_) d hdu
          have := h3 i (.int .u8 (xs.getD i 0)) (by rw [e1, List.getElem?_map, List.getD_eq_getElem?_getD, List.getElem?_eq_getElem (by omega)]; rfl)
          rw [add_lit] at this
          exact this
        · cases hs
      · cases hb
    · cases hb
theorem sim_copy {s x : Operand} {t t' : TypeId} (hp : Pre P ⟨dst, .call ⟨.builtin .copy, #[s, x], #[t, t']⟩, ty, pos, af, g⟩ e a B m h w p) (hs : copyS P t t' s x e h = some r) (hT : Reads B m h w p r.rd) :
    Sim P ⟨dst, .call ⟨.builtin .copy, #[s, x], #[t, t']⟩, ty, pos, af, g⟩ a B m h w r := by
  have hsr := hp.rel s (by simp [Op.operands, Call.operands])
  have hxr := hp.rel x (by simp [Op.operands, Call.operands])
  have hrun : (execOp a.eval ⟨dst, .call ⟨.builtin .copy, #[s, x], #[t, t']⟩, ty, pos, af, g⟩).run P w = (do pure (.value (← Builtin.copy_ #[t, t'] ty #[a.eval s, a.eval x])) : Sem Next).run P w := by
    rw [run_builtin]; simp [builtin]
  unfold copyS at hs
  cases hk : P.underlying t' with
  | none => rw [hk] at hs; cases hs
  | some d' =>
  cases d' with
  | slice e' =>
    cases ht : P.underlying t with
    | none => rw [hk, ht] at hs; cases hs
    | some d =>
    cases d with
    | slice el =>
      rw [hk, ht] at hs
      dsimp only at hs
      cases hz : szOf P el with
      | none => rw [hz] at hs; cases hs
      | some sz =>
        rw [hz] at hs
        dsimp only at hs
        cases hz0 : Nat.beq sz 0
        · rw [hz0] at hs
          simp only [cond_false] at hs
          obtain ⟨i, hi, hisz⟩ : ∃ i, P.info? el = some i ∧ i.size = sz := by
            unfold szOf at hz
            exact Option.map_eq_some_iff.1 hz
          unfold copyV at hs
          split at hs
          · rename_i rd cs fl n hcs
            split at hs
            · rename_i len cap hes
              rw [hes] at hsr
              have hsr := VRel.of_flatCell rfl hsr
              cases hq : Nat.beq len 0
              · rw [hq] at hs; cases hs
              · rw [hq] at hs
                cases hs
                have h0 : len = 0 := Nat.eq_of_beq_eq_true hq
                subst h0
                obtain ⟨cs', hsrc, hl, hlen, hsc, hpc⟩ := cellsOf_src (w := w) hk hp.plain hxr hcs fun b hb => hT b (by simpa [Res.rd] using hb)
                refine .still (v' := .int .i64 0) (hrun.trans (run_v ?_)) (.same _ rfl)
                rw [hsr]
                have hfc : (Builtin.firstCells sz 0 (a.eval x)).run P w = .ok #[] w := by
                  unfold cellsOf at hcs
                  split at hcs
                  · rename_i n' c he
                    rw [he] at hxr
                    rw [VRel.of_flatCell rfl hxr]
                    exact run_firstCells_none w sz 0 n' c
                  · rename_i b o n' c he
                    rw [he] at hxr
                    obtain ⟨c', hsv, _⟩ := hxr.sl_inv
                    rw [hsv]
                    exact run_firstCells_some w sz 0 _ n' c' [] (by simp) (fun j v hj => by simp at hj)
                  · cases hcs
                simp [Builtin.copy_, run_underlying ht, hsrc.len, sizeOf, typeInfo, hi, hisz, hfc]
                rfl
            · rename_i b o len cap hes
              rw [hes] at hsr
              obtain ⟨c', hsv, _⟩ := hsr.sl_inv
              obtain ⟨blk, hblk, hs⟩ := Option.bind_eq_some_iff.1 hs
              obtain ⟨cs1, hcs1, hs⟩ := Option.bind_eq_some_iff.1 hs
              cases hc : !blk.ro && Nat.ble (o + Nat.min n len * sz) blk.cells.length && Nat.ble (Nat.min n len) 9223372036854775807
              · rw [hc] at hs; cases hs
              · rw [hc] at hs
                cases hs
                simp only [Bool.and_eq_true, Bool.not_eq_true'] at hc
                obtain ⟨⟨k1, k2⟩, k3⟩ := hc
                have k2 := Nat.le_of_ble_eq_true k2
                have k3 := Nat.le_of_ble_eq_true k3
                obtain ⟨cs', hsrc, hl, hlen, hsc, hpc⟩ := cellsOf_src (w := w) hk hp.plain hxr hcs fun b hb => hT b (by simp [Res.rd, hb])
                obtain ⟨hbr, _⟩ := hT b (by simp [Res.rd]) blk hblk
                obtain ⟨hle, e1⟩ := cut_some hcs1
                rw [List.drop_zero] at e1
                have hl1 : LRel m cs1 (cs'.take (Nat.min n len * sz)) := by rw [e1]; exact hl.take _
                have hlen1 : cs1.length = Nat.min n len * sz := cut_len hcs1
                have hpc1 : cs1.all plainCell = true := by rw [e1]; exact List.all_eq_true.2 fun v hv => List.all_eq_true.1 hpc v (List.mem_of_mem_take hv)
                have hst := hbr.run_store (P := P) (o := o) k1 (by omega) hl1 hpc1
                have hput := hbr.put (o := o) (fl := blk.flat && fl) k1 (by omega) hl1
                have hfc : (Builtin.firstCells sz (Nat.min n len) (a.eval x)).run P w = .ok (cs'.take (Nat.min n len * sz)).toArray w := by
                  unfold cellsOf at hcs
                  split at hcs
                  · rename_i n' c2 he
                    rw [he] at hxr
                    rw [VRel.of_flatCell rfl hxr]
                    cases h0 : Nat.beq n' 0
                    · rw [h0] at hcs; cases hcs
                    · rw [h0] at hcs
                      cases hcs
                      have h9 : cs' = [] := List.eq_nil_of_length_eq_zero (by rw [hsrc.newsLen]; simp)
                      rw [h9, List.take_nil]
                      exact run_firstCells_none w sz _ n' c2
                  · rename_i b2 o2 n' c2 he
                    obtain ⟨blk2, hblk2, hcs⟩ := Option.bind_eq_some_iff.1 hcs
                    obtain ⟨cs2, hcs2, hcs⟩ := Option.map_eq_some_iff.1 hcs
                    cases hcs
                    rw [he] at hxr
                    obtain ⟨c3, hsv3, _⟩ := hxr.sl_inv
                    have hfull := hsrc.cells
                    rw [hsv3] at hfull ⊢
                    obtain ⟨cs4, q1, q2, q3⟩ := ((hT b2 (by simp [Res.rd]) blk2 hblk2).1).read hcs2
                    have hsame := run_firstCells_some (P := P) w sz n ⟨(m b2).blk, (m b2).off + o2, none⟩ n c3 cs4 (by rw [q2]) (by simpa using q3)
                    rw [hsame] at hfull
                    have he4 : cs4 = cs' := by
                      injection hfull with hf1
                      have := congrArg Array.toList hf1
                      simpa using this
                    subst he4
                    refine run_firstCells_some w sz _ _ n c3 _ ?_ fun j v hj => ?_
                    · rw [List.length_take, q2]
                      have : Nat.min n len * sz ≤ n * sz := Nat.mul_le_mul_right _ (Nat.min_le_left _ _)
                      omega
                    · rw [List.getElem?_take] at hj
                      by_cases hj2 : j < Nat.min n len * sz
                      · rw [if_pos hj2] at hj; exact q3 j v hj
                      · rw [if_neg hj2] at hj; cases hj
                  · cases hcs
                refine ⟨m, .int .i64 (Nat.min n len : Nat), _, hrun.trans (run_v ?_), .same _ rfl, set_done hbr k1 hput k1⟩
                rw [hsv]
                simp only [Builtin.copy_, List.getElem?_toArray, List.getElem?_cons_zero, List.getElem?_cons_succ, Sem.run_bind, run_underlying ht, Result.andThen_ok, hsrc.len, sizeOf, typeInfo, run_program, hi, Sem.run_pure, hisz, hfc, hst]
                have hgi : goInt (n.min len) = .int .i64 ((n.min len : Nat) : Int) := by
                  unfold goInt
                  first | rfl | (rw [wrap_nat' k3])
                rw [hgi]
            · cases hs
          · cases hs
        · rw [hz0] at hs; cases hs
    | _ => rw [hk, ht] at hs; cases hs
  | _ => rw [hk] at hs; cases ht : P.underlying t <;> rw [ht] at hs <;> cases hs
theorem sim {o : Oper} (hp : Pre P o e a B m h w p) (hs : stepOf P o e h = some r) (hT : Reads B m h w p r.rd) (hpn : r.eff.isNew = true → ¬ p h.next) : Sim P o a B m h w r := by
  obtain ⟨dst, op, ty, pos, af, g⟩ := o
  cases op with
  | move x => exact sim_move hp hs
  | assign x => exact sim_assign hp hs
  | pick c x y => exact sim_pick hp hs
  | alloc t => exact sim_alloc hp hs hpn
  | box t x => exact sim_box hp hs hpn
  | build t parts => exact sim_build hp hs
  | buildSlice t n parts => exact sim_buildSlice hp hs hpn
  | load t x => exact sim_load hp hs hT
  | store t x y => exact sim_store hp hs hT
  | nilCheck x => exact sim_nilCheck hp hs
  | fieldAddr s x f => exact sim_fieldAddr hp hs
  | field s x f => exact sim_field hp hs
  | indexAddr t x i => exact sim_indexAddr hp hs
  | slice t x lo hi mx =>
    cases mx with
    | none => exact sim_slice hp hs hT
    | some _ => cases hs
  | binOp op t x y t' => exact sim_bin hp hs
  | unOp op t x => exact sim_un hp hs
  | extract t i => exact sim_extract hp hs
  | convert s d x => exact sim_convert hp hs hT
  | index t x i => exact sim_pure (fun _ _ hh => by cases hh) hp hs
  | makeSlice t l c => exact sim_makeSlice hp hs hpn
  | makeFunc f first captured =>
    cases f with
    | func f => exact sim_makeFunc hp hs
    | _ => cases hs
  | call c =>
    obtain ⟨callee, args, ts⟩ := c
    cases callee with
    | value f => exact sim_call hp hs
    | invoke _ _ => cases hs
    | builtin b =>
      cases b with
      | len =>
        obtain ⟨l⟩ := args
        obtain ⟨k⟩ := ts
        match l, k, hp, hs with
        | [x], [t], hp, hs => exact sim_len hp hs
        | [], _, _, hs => cases hs
        | _ :: _ :: _, _, _, hs => cases hs
        | [_], [], _, hs => cases hs
        | [_], _ :: _ :: _, _, hs => cases hs
      | append =>
        obtain ⟨l⟩ := args
        obtain ⟨k⟩ := ts
        match l, k, hp, hs with
        | [s, x], [t, t'], hp, hs => exact sim_append hp hs hT hpn
        | [], _, _, hs => cases hs
        | [_], _, _, hs => cases hs
        | _ :: _ :: _ :: _, _, _, hs => cases hs
        | [_, _], [], _, hs => cases hs
        | [_, _], [_], _, hs => cases hs
        | [_, _], _ :: _ :: _ :: _, _, hs => cases hs
      | copy =>
        obtain ⟨l⟩ := args
        obtain ⟨k⟩ := ts
        match l, k, hp, hs with
        | [s, x], [t, t'], hp, hs => exact sim_copy hp hs hT
        | [], _, _, hs => cases hs
        | [_], _, _, hs => cases hs
        | _ :: _ :: _ :: _, _, _, hs => cases hs
        | [_, _], [], _, hs => cases hs
        | [_, _], [_], _, hs => cases hs
        | [_, _], _ :: _ :: _ :: _, _, hs => cases hs
      | max => exact sim_pure (fun _ _ hh => by cases hh) hp hs
      | min => exact sim_pure (fun _ _ hh => by cases hh) hp hs
      | _ => cases hs
  | _ => cases hs
end
end Go.Am
end
section
set_option linter.unusedVariables false
set_option linter.unusedSimpArgs false
namespace Go.Am
open Go.RowKit

structure BlkOk (p : Nat → Prop) (x : Blk) : Prop where
  sc : ∀ v ∈ x.cells, Sc p v
  plain : x.cells.all plainCell = true
  fl : x.flat = true → ∀ v ∈ x.cells, flatCell v = true
theorem BlkOk.mono {p q : Nat → Prop} {x : Blk} (h : BlkOk p x) (hn : ∀ b, p b → q b) : BlkOk q x := ⟨fun v hv => (h.sc v hv).mono hn, h.plain, h.fl⟩
structure HWf (h : Heap) : Prop where
  lt : ∀ b x, h.get b = some x → b < h.next
  ok : ∀ b x, h.get b = some x → BlkOk (· < h.next) x
def EffOk (h : Heap) (p : Nat → Prop) : Eff → Prop
  | .non => True
  | .new x => BlkOk p x
  | .set b x => (∃ y, h.get b = some y) ∧ BlkOk p x
  | .mv k x => (∃ y, h.get k = some y) ∧ BlkOk p x
theorem Heap.next_eff (h : Heap) (f : Eff) : h.next ≤ (h.eff f).next := by
  cases f <;> simp [Heap.eff, Heap.alloc, Heap.set, Heap.kill]
theorem HWf.alloc {h : Heap} (hw : HWf h) {x : Blk} (hx : BlkOk (· < h.next) x) : HWf (h.alloc x) := by
  refine ⟨fun b y hy => ?_, fun b y hy => ?_⟩
  · by_cases hb : b = h.next
    · subst hb; simp [Heap.alloc]
    · rw [Heap.get_alloc_ne h x hb] at hy
      have := hw.lt b y hy
      simp [Heap.alloc]; omega
  · by_cases hb : b = h.next
    · subst hb
      rw [Heap.get_alloc_same] at hy
      cases hy
      exact hx.mono fun c hc => Nat.lt_succ_of_lt hc
    · rw [Heap.get_alloc_ne h x hb] at hy
      exact (hw.ok b y hy).mono fun c hc => Nat.lt_succ_of_lt hc
theorem HWf.set {h : Heap} (hw : HWf h) {k : Nat} {x : Blk} (hk : k < h.next) (hx : BlkOk (· < h.next) x) : HWf (h.set k x) := by
  refine ⟨fun b y hy => ?_, fun b y hy => ?_⟩
  · by_cases hb : k = b
    · subst hb; exact hk
    · rw [Heap.get_set_ne h x hb] at hy
      exact hw.lt b y hy
  · by_cases hb : k = b
    · subst hb
      rw [Heap.get_set_same] at hy
      cases hy
      exact hx
    · rw [Heap.get_set_ne h x hb] at hy
      exact hw.ok b y hy
theorem HWf.kill {h : Heap} (hw : HWf h) (k : Nat) : HWf (h.kill k) := by
  refine ⟨fun b y hy => ?_, fun b y hy => ?_⟩ <;>
    (by_cases hb : k = b
     · subst hb; rw [Heap.get_kill_same] at hy; cases hy
     · rw [Heap.get_kill_ne h hb] at hy
       first
         | exact hw.lt b y hy
         | exact hw.ok b y hy)
theorem HWf.low {h : Heap} (hw : HWf h) (n : Nat) : HWf (h.low n) := ⟨hw.lt, hw.ok⟩
theorem HWf.eff {h : Heap} (hw : HWf h) {f : Eff} (hf : EffOk h (· < h.next) f) : HWf (h.eff f) := by
  cases f with
  | non => exact hw
  | new x => exact hw.alloc hf
  | set b x => exact hw.set (hf.1.elim fun y hy => hw.lt b y hy) hf.2
  | mv k x => exact (hw.kill k).alloc hf.2

theorem Sc.asPtr {p : Nat → Prop} {b o : Nat} {v : Value} (h : Sc p v) (hp : Am.asPtr v = some (b, o)) : p b := by
  unfold Am.asPtr at hp
  split at hp
  · cases hp
    cases h with
    | flat _ h => cases h
    | ptr _ _ h => exact h
  · cases hp
theorem Sc.sl_lt {p : Nat → Prop} {b o l c : Nat} (h : Sc p (.slice (some ⟨b, o, none⟩) l c)) : p b := by
  cases h with
  | flat _ h => cases h
  | sl _ _ _ _ h => exact h
theorem Sc.asSl {p : Nat → Prop} {b o l c : Nat} {v : Value} (h : Sc p v) (hp : Am.asSl v = some (some (b, o), l, c)) : p b := by
  have := asSl_val hp
  subst this
  exact h.sl_lt
section
variable {P : Program} {dst : Option Tmp} {ty : TypeId} {pos : String} {af : Array Edge} {g : Option (Nat × Bool)} {e : Env} {h : Heap} {r : Res} {n : Nat} {p : Nat → Prop}
/-- what a result may refer to -/
def more (p : Nat → Prop) (h : Heap) (f : Eff) : Nat → Prop := fun b => p b ∨ (f.isNew = true ∧ b = h.next)
def ResOk (h : Heap) (p : Nat → Prop) : Res → Prop
  | .val v rd f => EffOk h p f ∧ Sc (more p h f) v ∧ (∀ b ∈ f.wr, b ∈ rd)
  | .unit rd f => EffOk h p f ∧ (∀ b ∈ f.wr, b ∈ rd)
  | .enter _ args => ∀ v ∈ args, Sc p v
theorem ResOk.still {v : Value} {rd : List Nat} (hv : Sc p v) : ResOk h p (.val v rd .non) := ⟨trivial, hv.mono fun _ hb => .inl hb, fun b hb => by cases hb⟩
def RdOk (h : Heap) (p : Nat → Prop) (l : List Nat) : Prop := ∀ b ∈ l, ∀ x, h.get b = some x → ∀ v ∈ x.cells, Sc p v
theorem RdOk.blk {l : List Nat} (hr : RdOk h p l) (hw : HWf h) {b : Nat} {x : Blk} (hb : b ∈ l) (hx : h.get b = some x) : BlkOk p x := ⟨hr b hb x hx, (hw.ok b x hx).plain, (hw.ok b x hx).fl⟩
theorem ok_asValue {n : Option Next} (hs : asValue n = some r) : ResOk h p r := by
  obtain ⟨v, _, hv, rfl⟩ := asValue_some hs
  exact .still (Sc.of_flat hv)
theorem ok_pure {o : Oper} (hs : pureS P o e h = some r) : ResOk h p r := by
  unfold pureS at hs
  cases hf : o.op.operands.toList.all fun x => flat (ev e x)
  · rw [hf] at hs; cases hs
  · rw [hf] at hs; exact ok_asValue hs
theorem ok_boxV {z : Value} (hz : Sc p z) (hs : boxV h z = some r) : ResOk h p r := by
  unfold boxV at hs
  cases hp : z.cells.toList.all plainCell
  · rw [hp] at hs; cases hs
  · rw [hp] at hs
    cases hs
    exact ⟨⟨hz.cells, hp, fun hf => flat_cells hf hp⟩, .ptr _ _ (.inr ⟨rfl, rfl⟩), fun b hb => by cases hb⟩
theorem ok_indexV {sz : Nat} {k : Option Int} {s : Option (Option (Nat × Nat) × Nat × Nat)} (hb : ∀ b o l c, s = some (some (b, o), l, c) → p b) (hs : indexV sz k s = some r) : ResOk h p r := by
  obtain ⟨i, b, o, len, cap, h1, h2, h3, h4, rfl⟩ := indexV_some hs
  exact .still (.ptr _ _ (hb _ _ _ _ h2))
theorem ok_parts {parts : Array (Nat × Operand)} (hsc : ∀ x ∈ (parts.toList.map (·.2)), Sc p (ev e x)) : ∀ q0 ∈ evParts e parts, ∀ v ∈ q0.2.cells.toList, Sc p v := by
  intro q0 hp
  simp only [evParts, List.mem_map] at hp
  obtain ⟨q, hq, rfl⟩ := hp
  exact (hsc q.2 (List.mem_map.2 ⟨q, hq, rfl⟩)).cells
theorem ok_buildV {place : Nat → Option (Nat × Nat)} {z : Value} {parts : Array (Nat × Operand)} (hsc : ∀ x ∈ (parts.toList.map (·.2)), Sc p (ev e x)) (hz : flat z = true) (hs : buildV (fillA place z.cells (evParts e parts)) = some r) : ResOk h p r := by
  unfold buildV at hs
  split at hs
  · rename_i cs hcs
    cases hpl : cs.toList.all plainCell
    · rw [hpl] at hs; cases hs
    · rw [hpl] at hs
      cases hs
      obtain ⟨h1, h2⟩ := fillA_some hcs
      exact .still (.mk_agg (fill_all _ _ _ (ok_parts hsc) (Sc.of_flat hz).cells h2))
  · cases hs
theorem ok_buildS {t : TypeId} {parts : Array (Nat × Operand)} (hsc : ∀ x ∈ (parts.toList.map (·.2)), Sc p (ev e x)) (hs : buildS P t parts e h = some r) : ResOk h p r := by
  unfold buildS at hs
  cases hu : P.underlying t with
  | none => rw [hu] at hs; cases hs
  | some d =>
    cases hz : (P.info? t).bind (·.zero) with
    | none => rw [hu, hz] at hs; cases d <;> cases hs
    | some z =>
      rw [hu, hz] at hs
      cases d with
      | struct fs =>
        dsimp only at hs
        cases hpl : places P fs with
        | none => rw [hpl] at hs; cases hs
        | some ps =>
          rw [hpl] at hs
          dsimp only at hs
          cases hf : flat z
          · rw [hf] at hs; cases hs
          · rw [hf] at hs; exact ok_buildV hsc hf hs
      | array n el =>
        dsimp only at hs
        cases hn : szOf P el with
        | none => rw [hn] at hs; cases hs
        | some sz =>
          rw [hn] at hs
          dsimp only at hs
          cases hf : flat z
          · rw [hf] at hs; cases hs
          · rw [hf] at hs; exact ok_buildV hsc hf hs
      | _ => cases hs
theorem fill_flat {place : Nat → Option (Nat × Nat)} {cs r : Array Value} {ps : List (Nat × Value)} (hp : ∀ p ∈ ps, flat p.2 = true) (hpl : ∀ p ∈ ps, p.2.cells.toList.all plainCell = true) (hc : ∀ v ∈ cs.toList, flatCell v = true) (hf : Instr.fill place cs ps = some r) : ∀ v ∈ r.toList, flatCell v = true :=
  fill_all ps cs r (fun q hq => flat_cells (hp q hq) (hpl q hq)) hc hf
theorem ok_buildSliceS {t : TypeId} {n : Nat} {parts : Array (Nat × Operand)} (hsc : ∀ x ∈ (parts.toList.map (·.2)), Sc p (ev e x)) (hs : buildSliceS P t n parts e h = some r) : ResOk h p r := by
  unfold buildSliceS at hs
  cases hu : P.underlying t with
  | none => rw [hu] at hs; cases hs
  | some d =>
    rw [hu] at hs
    cases d with
    | slice el =>
      dsimp only at hs
      cases hi : P.info? el with
      | none => rw [hi] at hs; cases hs
      | some i =>
        rw [hi] at hs
        dsimp only at hs
        cases hz : i.zero with
        | none => rw [hz] at hs; cases hs
        | some z =>
          rw [hz] at hs
          dsimp only at hs
          cases hc : Nat.ble (n * i.size) 16777216 && flat z && !Nat.beq i.size 0 && z.cells.toList.all plainCell
          · rw [hc] at hs; cases hs
          · rw [hc] at hs
            simp only [Bool.and_eq_true, Bool.not_eq_true'] at hc
            obtain ⟨⟨⟨c1, c2⟩, c3⟩, c4⟩ := hc
            simp only [cond_true] at hs
            unfold buildSliceV at hs
            split at hs
            · rename_i cs hcs
              cases hpl : cs.toList.all plainCell
              · rw [hpl] at hs; cases hs
              · rw [hpl] at hs
                cases hs
                obtain ⟨h1, h2⟩ := fillA_some hcs
                have hz0 : ∀ v ∈ (zeros z.cells (n * i.size)).toList, v ∈ z.cells.toList ∨ v = default := by
                  intro v hv
                  simp [zeros] at hv
                  obtain ⟨k, hk, rfl⟩ := hv
                  by_cases hzs : k % z.cells.size < z.cells.size
                  · rw [getElem!_pos z.cells _ hzs]; exact .inl (by simp)
                  · rw [getElem!_neg z.cells _ hzs]; exact .inr rfl
                refine ⟨⟨fill_all _ _ _ (ok_parts hsc) (fun v hv => ?_) h2, hpl, fun hf => ?_⟩, .sl _ _ _ _ (.inr ⟨rfl, rfl⟩), fun b hb => by cases hb⟩
                · rcases hz0 v hv with hv | rfl
                  · exact (Sc.of_flat c2).cells v hv
                  · exact .flat _ rfl
                · refine fill_flat (fun p hp => List.all_eq_true.1 hf p hp) h1 (fun v hv => ?_) h2
                  rcases hz0 v hv with hv | rfl
                  · exact flat_cells c2 c4 v hv
                  · rfl
            · cases hs
    | _ => cases hs
theorem ok_cut {l cs : List Value} {o k : Nat} {c : Value → Prop} (hl : ∀ v ∈ l, c v) (hc : cut l o k = some cs) : ∀ v ∈ cs, c v := by
  obtain ⟨_, rfl⟩ := cut_some hc
  exact fun v hv => hl v (List.mem_of_mem_drop (List.mem_of_mem_take hv))
theorem ok_cellAt {gg : Bool} {n o : Nat} {x : Blk} {v : Value} (hx : BlkOk p x) (hv : cellAt gg n o x = some v) : Sc p v := by
  unfold cellAt at hv
  cases gg with
  | true =>
    simp only [cond_true] at hv
    obtain ⟨cs, hc, rfl⟩ := Option.map_eq_some_iff.1 hv
    exact .mk_agg (by simpa using ok_cut hx.sc hc)
  | false => exact hx.sc v (List.mem_of_getElem? hv)
theorem ok_loadS {t : TypeId} {x : Operand} (hw : HWf h) (hs : loadS P t x e h = some r) (hR : RdOk h p r.rd) : ResOk h p r := by
  unfold loadS at hs
  cases hg : aggT P t with
  | none => rw [hg] at hs; cases hs
  | some gg =>
    cases hn : szOf P t with
    | none => rw [hg, hn] at hs; cases hs
    | some n =>
      rw [hg, hn] at hs
      dsimp only at hs
      unfold loadV at hs
      split at hs
      · obtain ⟨v, hv, rfl⟩ := Option.map_eq_some_iff.1 hs
        obtain ⟨blk, hblk, hv⟩ := Option.bind_eq_some_iff.1 hv
        exact .still (ok_cellAt (hR.blk hw (by simp [Res.rd]) hblk) hv)
      · cases hs
theorem ok_putAll {l vs : List Value} {o : Nat} {c : Value → Prop} (hl : ∀ v ∈ l, c v) (hv : ∀ v ∈ vs, c v) : ∀ v ∈ putAll l o vs, c v := by
  intro v h
  unfold putAll at h
  rcases List.mem_append.1 h with h | h
  · rcases List.mem_append.1 h with h | h
    · exact hl v (List.mem_of_mem_take h)
    · exact hv v h
  · exact hl v (List.mem_of_mem_drop h)
theorem ok_storeS {t : TypeId} {x y : Operand} (hw : HWf h) (hy : Sc p (ev e y)) (hs : storeS P t x y e h = some r) (hR : RdOk h p r.rd) : ResOk h p r := by
  unfold storeS at hs
  cases hn : szOf P t with
  | none => rw [hn] at hs; cases hs
  | some n =>
    rw [hn] at hs
    dsimp only at hs
    unfold storeV at hs
    split at hs
    · rename_i b o hq
      obtain ⟨x', hx', rfl⟩ := Option.map_eq_some_iff.1 hs
      obtain ⟨blk, hblk, hx'⟩ := Option.bind_eq_some_iff.1 hx'
      have hb := hR.blk hw (b := b) (by simp [Res.rd]) hblk
      unfold storeB at hx'
      cases hc : !blk.ro && Nat.beq (ev e y).cells.toList.length n && Nat.ble (o + n) blk.cells.length && (ev e y).cells.toList.all plainCell
      · rw [hc] at hx'; cases hx'
      · rw [hc] at hx'
        cases hx'
        simp only [Bool.and_eq_true, Bool.not_eq_true'] at hc
        refine ⟨⟨⟨_, hblk⟩, ok_putAll hb.sc hy.cells, ?_, fun hf => ?_⟩, fun b hb => by simpa [Eff.wr] using hb⟩
        · exact List.all_eq_true.2 (ok_putAll (c := fun v => plainCell v = true) (List.all_eq_true.1 hb.plain) (List.all_eq_true.1 hc.2))
        · rw [Bool.and_eq_true] at hf
          exact ok_putAll (hb.fl hf.1) (flat_cells hf.2 hc.2)
    · cases hs
theorem ok_cellsOf {sz n : Nat} {x : Value} {rd : List Nat} {cs : List Value} {fl : Bool} (hw : HWf h) (hc : cellsOf h sz x = some (rd, cs, fl, n)) (hR : RdOk h p rd) : BlkOk p ⟨cs, fl, false, none⟩ := by
  unfold cellsOf at hc
  split at hc
  · rename_i n' c
    cases h0 : Nat.beq n' 0
    · rw [h0] at hc; cases hc
    · rw [h0] at hc
      cases hc
      exact ⟨fun v hv => (by cases hv), rfl, fun _ v hv => (by cases hv)⟩
  · rename_i b o n' c
    obtain ⟨blk, hblk, hc⟩ := Option.bind_eq_some_iff.1 hc
    obtain ⟨cs1, hcs, hc⟩ := Option.map_eq_some_iff.1 hc
    cases hc
    have hb := hR.blk hw (b := b) (by simp) hblk
    exact ⟨ok_cut hb.sc hcs, List.all_eq_true.2 (ok_cut (c := fun v => plainCell v = true) (List.all_eq_true.1 hb.plain) hcs), fun hf => ok_cut (hb.fl hf) hcs⟩
  · cases hc
theorem BlkOk.append {cs cs' : List Value} {fl fl' ro ro' : Bool} {gr gr' gr'' : Option Nat} (h : BlkOk p ⟨cs, fl, ro, gr⟩) (h' : BlkOk p ⟨cs', fl', ro', gr'⟩) : BlkOk p ⟨cs ++ cs', fl && fl', false, gr''⟩ := by
  refine ⟨fun v hv => ?_, ?_, fun hf v hv => ?_⟩
  · rcases List.mem_append.1 hv with hv | hv
    · exact h.sc v hv
    · exact h'.sc v hv
  · show (cs ++ cs').all plainCell = true
    rw [List.all_append, h.plain, h'.plain]; rfl
  · have hf : (fl && fl') = true := hf
    rw [Bool.and_eq_true] at hf
    rcases List.mem_append.1 hv with hv | hv
    · exact h.fl hf.1 v hv
    · exact h'.fl hf.2 v hv
theorem ok_appendTo {sz bytes n : Nat} {s : Value} {rd : List Nat} {cs : List Value} {fl : Bool} (hw : HWf h) (hsc : Sc p s) (hx : BlkOk p ⟨cs, fl, false, none⟩) (hs : appendTo h sz bytes s rd cs fl n = some r) (hR : RdOk h p r.rd) : ResOk h p r := by
  unfold appendTo at hs
  split at hs
  · rename_i len cap
    cases hq : Nat.beq len 0 && Nat.beq cap 0
    · rw [hq] at hs; cases hs
    · rw [hq] at hs
      cases hn : Nat.beq n 0
      · rw [hn] at hs
        cases hm : Nat.ble (n * bytes) 140737488355328
        · rw [hm] at hs; cases hs
        · rw [hm] at hs
          cases hs
          exact ⟨⟨hx.sc, hx.plain, hx.fl⟩, .sl _ _ _ _ (.inr ⟨rfl, rfl⟩), fun b hb => by cases hb⟩
      · rw [hn] at hs; cases hs; exact .still hsc
  · rename_i b o len cap
    obtain ⟨blk, hblk, hs⟩ := Option.bind_eq_some_iff.1 hs
    have hb0 : b ∈ r.rd → BlkOk p blk := fun hb => hR.blk hw hb hblk
    cases hn : Nat.beq n 0
    · rw [hn] at hs
      simp only [cond_false] at hs
      cases hr : Nat.ble (len + n) cap
      · rw [hr] at hs
        simp only [cond_false] at hs
        cases hm : Nat.ble ((len + n) * bytes) 140737488355328
        · rw [hm] at hs; cases hs
        · rw [hm] at hs
          obtain ⟨old, hold, hs⟩ := Option.bind_eq_some_iff.1 hs
          have hin : b ∈ r.rd := by
            split at hs
            · cases hs; simp [Res.rd]
            · rename_i gr _
              cases hgr : Nat.beq gr sz && !blk.ro
              · rw [hgr] at hs; cases hs
              · rw [hgr] at hs; cases hs; simp [Res.rd]
          have hb := hb0 hin
          have ho : BlkOk p ⟨old, blk.flat, false, none⟩ := ⟨ok_cut hb.sc hold, List.all_eq_true.2 (ok_cut (c := fun v => plainCell v = true) (List.all_eq_true.1 hb.plain) hold), fun hf => ok_cut (hb.fl hf) hold⟩
          split at hs
          · cases hs
            exact ⟨ho.append hx, .sl _ _ _ _ (.inr ⟨rfl, rfl⟩), fun b hb => by cases hb⟩
          · rename_i gr _
            cases hgr : Nat.beq gr sz && !blk.ro
            · rw [hgr] at hs; cases hs
            · rw [hgr] at hs
              cases hs
              exact ⟨⟨⟨_, hblk⟩, ho.append hx⟩, .sl _ _ _ _ (.inr ⟨rfl, rfl⟩), fun b hb => by simp [Eff.wr] at hb; subst hb; simp⟩
      · rw [hr] at hs
        simp only [cond_true] at hs
        cases hm : !blk.ro && Nat.ble (o + (len + n) * sz) blk.cells.length
        · rw [hm] at hs; cases hs
        · rw [hm] at hs
          cases hs
          have hb := hb0 (by simp [Res.rd])
          refine ⟨⟨⟨_, hblk⟩, ok_putAll hb.sc hx.sc, ?_, fun hf => ?_⟩, .sl _ _ _ _ (.inl hsc.sl_lt), fun b hb => by simp [Eff.wr] at hb; subst hb; simp⟩
          · exact List.all_eq_true.2 (ok_putAll (c := fun v => plainCell v = true) (List.all_eq_true.1 hb.plain) (List.all_eq_true.1 hx.plain))
          · have hf : (blk.flat && fl) = true := hf
            rw [Bool.and_eq_true] at hf
            exact ok_putAll (hb.fl hf.1) (hx.fl hf.2)
    · rw [hn] at hs
      simp only [cond_true] at hs
      cases hm : Nat.ble len cap
      · rw [hm] at hs; cases hs
      · rw [hm] at hs; cases hs; exact .still hsc
  · cases hs
theorem ok_appendS {t t' : TypeId} {s x : Operand} (hw : HWf h) (hsc : Sc p (ev e s)) (hs : appendS P t t' s x e h = some r) (hR : RdOk h p r.rd) : ResOk h p r := by
  unfold appendS at hs
  cases hk : P.underlying t' with
  | none => rw [hk] at hs; cases hs
  | some d' =>
  cases d' with
  | slice e' =>
    cases ht : P.underlying t with
    | none => rw [hk, ht] at hs; cases hs
    | some d =>
    cases d with
    | slice el =>
      rw [hk, ht] at hs
      dsimp only at hs
      cases hi : P.info? el with
      | none => rw [hi] at hs; cases hs
      | some i =>
        rw [hi] at hs
        dsimp only at hs
        cases hz : i.zero with
        | none => rw [hz] at hs; cases hs
        | some z =>
          rw [hz] at hs
          dsimp only at hs
          cases hc : !Nat.beq i.size 0 && !Nat.beq i.bytes 0 && Nat.beq z.cells.size i.size
          · rw [hc] at hs; cases hs
          · rw [hc] at hs
            simp only [cond_true] at hs
            unfold appendV at hs
            split at hs
            · rename_i rd cs fl n hcs
              exact ok_appendTo hw hsc (ok_cellsOf hw hcs fun b hb => hR b (appendTo_rd hs b hb)) hs hR
            · cases hs
    | _ => rw [hk, ht] at hs; cases hs
  | _ => rw [hk] at hs; cases ht : P.underlying t <;> rw [ht] at hs <;> cases hs
theorem ok_pickS {c x y : Operand} (hx : Sc p (ev e x)) (hy : Sc p (ev e y)) (hs : pickS c x y e h = some r) : ResOk h p r := by
  unfold pickS at hs
  split at hs
  · rename_i t _
    cases hs
    exact .still (by cases t <;> assumption)
  · cases hs
theorem ok_nilCheckS {x : Operand} (hx : Sc p (ev e x)) (hs : nilCheckS x e h = some r) : ResOk h p r := by
  unfold nilCheckS at hs
  split at hs
  · rename_i he; cases hs; rw [he] at hx; exact .still hx
  · rename_i he; cases hs; rw [he] at hx; exact .still hx
  · rename_i he; cases hs; rw [he] at hx; exact .still hx
  · cases hs
theorem ok_fieldAddrS {s : TypeId} {x : Operand} {f : Nat} (hx : Sc p (ev e x)) (hs : fieldAddrS P s x f e h = some r) : ResOk h p r := by
  unfold fieldAddrS at hs
  cases hu : P.underlying s with
  | none => rw [hu] at hs; cases hs
  | some d =>
    rw [hu] at hs
    cases d with
    | struct fields =>
      dsimp only at hs
      cases hf : fields[f]? with
      | none => rw [hf] at hs; cases hs
      | some fd =>
      rw [hf] at hs
      dsimp only at hs
      cases hn : szOf P fd.type with
      | none => rw [hn] at hs; cases hs
      | some n =>
        rw [hn] at hs
        dsimp only at hs
        cases h0 : Nat.beq n 0
        · rw [h0] at hs
          simp only [cond_false] at hs
          cases hq : asPtr (ev e x) with
          | none => rw [hq] at hs; cases hs
          | some bo =>
            rw [hq] at hs
            cases hs
            exact .still (.ptr _ _ (hx.asPtr hq))
        · rw [h0] at hs; cases hs
    | _ => cases hs
theorem ok_indexAddrS {t : TypeId} {x i : Operand} (hx : Sc p (ev e x)) (hs : indexAddrS P t x i e h = some r) : ResOk h p r := by
  unfold indexAddrS at hs
  cases hu : P.underlying t with
  | none => rw [hu] at hs; cases hs
  | some d =>
    rw [hu] at hs
    cases d with
    | slice el =>
      dsimp only at hs
      cases hz : szOf P el with
      | none => rw [hz] at hs; cases hs
      | some sz => rw [hz] at hs; exact ok_indexV (fun b o l c hq => hx.asSl hq) hs
    | array len el =>
      dsimp only at hs
      cases hz : szOf P el with
      | none => rw [hz] at hs; cases hs
      | some sz =>
        rw [hz] at hs
        refine ok_indexV (fun b o l c hq => ?_) hs
        obtain ⟨p, hp1, hp2⟩ := Option.map_eq_some_iff.1 hq
        cases hp2
        exact hx.asPtr hp1
    | _ => cases hs
theorem ok_extractS {x : Operand} {i : Nat} (hx : Sc p (ev e x)) (hs : extractS x i e h = some r) : ResOk h p r := by
  unfold extractS at hs
  split at hs
  · rename_i vs he
    obtain ⟨v, hv, rfl⟩ := Option.map_eq_some_iff.1 hs
    rw [he] at hx
    cases hx with
    | flat _ hh => cases hh
    | tuple _ hh => exact .still (hh i v hv)
  · cases hs
theorem ok_lenS {t : TypeId} {x : Operand} (hs : lenS P t x e h = some r) : ResOk h p r := by
  unfold lenS at hs
  cases hu : P.underlying t with
  | none => rw [hu] at hs; cases hs
  | some d =>
    rw [hu] at hs
    cases d with
    | string =>
      dsimp only at hs
      unfold lenStr at hs
      split at hs
      · cases hs; exact .still (.flat _ rfl)
      · cases hs
    | slice el =>
      dsimp only at hs
      unfold lenV at hs
      split at hs
      · cases hs; exact .still (.flat _ rfl)
      · cases hs
    | _ => cases hs
theorem ok_binS {o : Oper} {op : BinOp} {t : TypeId} {x y : Operand} (hs : binS P o op t x y e h = some r) : ResOk h p r := by
  unfold binS orElse at hs
  split at hs
  · rename_i r' hb
    cases hs
    unfold binI at hb
    split at hb
    · rename_i k i k' j h1 h2
      cases hk : decide (k = k')
      · rw [hk] at hb; cases hb
      · rw [hk] at hb
        obtain ⟨v, hv, rfl⟩ := Option.map_eq_some_iff.1 hb
        exact .still (Sc.of_flat (abin_flat hv))
    · cases hb
  · unfold binV at hs
    cases hf : flat (ev e x) && flat (ev e y)
    · rw [hf] at hs
      simp only [cond_false] at hs
      unfold nilV at hs
      split at hs
      · split at hs
        · cases hs; exact .still (.flat _ rfl)
        · cases hs; exact .still (.flat _ rfl)
        · cases hs
      · cases hs
    · rw [hf] at hs; exact ok_asValue hs
theorem ok_unS {o : Oper} {op : UnOp} {x : Operand} (hs : unS P o op x e h = some r) : ResOk h p r := by
  unfold unS unV at hs
  split at hs
  · split at hs
    · cases hs; exact .still (.flat _ rfl)
    · cases hs
  · split at hs
    · cases hs; exact .still (.flat _ rfl)
    · exact ok_asValue hs
  · cases hf : flat (ev e x)
    · rw [hf] at hs; cases hs
    · rw [hf] at hs; exact ok_asValue hs
theorem ok_fieldS {s : TypeId} {x : Operand} {f : Nat} (hx : Sc p (ev e x)) (hs : fieldS P s x f e h = some r) : ResOk h p r := by
  unfold fieldS at hs
  cases hu : P.underlying s with
  | none => rw [hu] at hs; cases hs
  | some d =>
    rw [hu] at hs
    cases d with
    | struct fields =>
      dsimp only at hs
      cases hf : fields[f]? with
      | none => rw [hf] at hs; cases hs
      | some fd =>
        rw [hf] at hs
        dsimp only at hs
        cases hg : aggT P fd.type with
        | none => rw [hg] at hs; cases hs
        | some gg =>
          cases hn : szOf P fd.type with
          | none => rw [hg, hn] at hs; cases hs
          | some n =>
            rw [hg, hn] at hs
            dsimp only at hs
            unfold fieldOf at hs
            split at hs
            · rename_i cs he
              rw [he] at hx
              obtain ⟨v, hv, rfl⟩ := Option.map_eq_some_iff.1 hs
              cases gg with
              | true =>
                simp only [cond_true] at hv
                obtain ⟨l, hl1, rfl⟩ := Option.map_eq_some_iff.1 hv
                exact .still (.mk_agg (by simpa using ok_cut hx.of_agg hl1))
              | false => exact .still (hx.of_agg v (mem_at hv))
            · cases hs
    | _ => cases hs
theorem ok_sliceS {o : Oper} {t : TypeId} {x : Operand} {lo hi : Option Operand} (hx : Sc p (ev e x)) (hs : sliceS P o t x lo hi e h = some r) : ResOk h p r := by
  unfold sliceS at hs
  cases hu : P.underlying t with
  | none => rw [hu] at hs; cases hs
  | some d =>
    rw [hu] at hs
    cases d with
    | string => exact ok_pure hs
    | slice el =>
      dsimp only at hs
      cases hz : szOf P el with
      | none => rw [hz] at hs; cases hs
      | some sz =>
        rw [hz] at hs
        dsimp only at hs
        unfold sliceV at hs
        split at hs
        · rename_i A n c hsl
          obtain ⟨ih, h1, hs⟩ := Option.bind_eq_some_iff.1 hs
          obtain ⟨il, h2, hs⟩ := Option.bind_eq_some_iff.1 hs
          cases hle : Nat.ble ih c
          · rw [hle] at hs; cases hs
          rw [hle] at hs
          simp only [cond_true] at hs
          cases A with
          | none => cases hs; exact .still (.flat _ rfl)
          | some bo =>
            obtain ⟨b, o⟩ := bo
            dsimp only at hs
            obtain ⟨ex, hg, hs⟩ := Option.bind_eq_some_iff.1 hs
            have hb := hx.asSl hsl
            cases hic : Nat.beq il c
            · rw [hic] at hs; cases hs; exact .still (.sl _ _ _ _ hb)
            · rw [hic] at hs
              cases ex with
              | false => cases hs
              | true => cases hs; exact .still (.sl _ _ _ _ hb)
        · cases hs
    | _ => cases hs
theorem ok_callS {f : Operand} {args : Array Operand} (hf : Sc p (ev e f)) (ha : ∀ x ∈ args.toList, Sc p (ev e x)) (hs : callS P f args e h = some r) : ResOk h p r := by
  unfold callS at hs
  split at hs
  · rename_i gg first captured he
    cases hb : hasBody P gg
    · rw [hb] at hs; cases hs
    · rw [hb] at hs
      cases hs
      rw [he] at hf
      cases hf with
      | flat _ hh => cases hh
      | func _ _ _ h1 h2 =>
        intro v hv
        rcases List.mem_append.1 hv with hv | hv
        · rcases List.mem_append.1 hv with hv | hv
          · obtain ⟨i, hi, hv⟩ := List.getElem_of_mem hv
            exact h1 i v (by rw [← hv]; simp at hi ⊢)
          · obtain ⟨x, hx, rfl⟩ := List.mem_map.1 hv
            exact ha x hx
        · obtain ⟨i, hi, hv⟩ := List.getElem_of_mem hv
          exact h2 i v (by rw [← hv]; simp at hi ⊢)
  · cases hs
theorem ok_makeFuncS {f : FuncId} {first captured : Array Operand} (h1 : ∀ x ∈ first, Sc p (ev e x)) (h2 : ∀ x ∈ captured, Sc p (ev e x)) (hs : makeFuncS f first captured e h = some r) : ResOk h p r := by
  cases hs
  refine .still (.func _ _ _ (fun i v hv => ?_) fun i v hv => ?_)
  · rw [Array.getElem?_map] at hv
    obtain ⟨x, hx, rfl⟩ := Option.map_eq_some_iff.1 hv
    exact h1 x (Array.mem_of_getElem? hx)
  · rw [Array.getElem?_map] at hv
    obtain ⟨x, hx, rfl⟩ := Option.map_eq_some_iff.1 hv
    exact h2 x (Array.mem_of_getElem? hx)
theorem ok_makeSliceS {t : TypeId} {l c : Operand} (hs : makeSliceS P t l c e h = some r) : ResOk h p r := by
  unfold makeSliceS at hs
  cases hu : P.underlying t with
  | none => rw [hu] at hs; cases hs
  | some d =>
    rw [hu] at hs
    cases d with
    | slice el =>
      dsimp only at hs
      cases hi : P.info? el with
      | none => rw [hi] at hs; cases hs
      | some i =>
        rw [hi] at hs
        dsimp only at hs
        cases hz : i.zero with
        | none => rw [hz] at hs; cases hs
        | some z =>
          rw [hz] at hs
          dsimp only at hs
          cases hc : flat z && !Nat.beq i.size 0 && z.cells.toList.all plainCell && Nat.beq z.cells.size i.size
          · rw [hc] at hs; cases hs
          · rw [hc] at hs
            simp only [Bool.and_eq_true, Bool.not_eq_true'] at hc
            obtain ⟨⟨⟨c1, c2⟩, c3⟩, c4⟩ := hc
            simp only [cond_true] at hs
            unfold makeV at hs
            split at hs
            · rename_i nl nc hl hcc
              cases hb : Nat.ble nl nc && Nat.ble (nc * i.bytes) 16777216 && Nat.ble (nc * i.size) 16777216 && Nat.ble nc 16777216
              · rw [hb] at hs; cases hs
              · rw [hb] at hs
                cases hs
                exact ⟨⟨fun v hv => Sc.flat v (zeros_flat c1 c3 v hv).1, List.all_eq_true.2 fun v hv => (zeros_flat c1 c3 v hv).2, fun _ v hv => (zeros_flat c1 c3 v hv).1⟩, .sl _ _ _ _ (.inr ⟨rfl, rfl⟩), fun b hb => by cases hb⟩
            · cases hs
    | _ => cases hs
theorem ok_convertS {o : Oper} {s d : TypeId} {x : Operand} (hs : convertS P o s d x e h = some r) : ResOk h p r := by
  unfold convertS at hs
  cases hb : isBytes P s d
  · rw [hb] at hs; exact ok_pure hs
  · rw [hb] at hs
    simp only [cond_true] at hs
    unfold convB at hs
    split at hs
    · cases hs; exact .still (.flat _ rfl)
    · obtain ⟨blk, hblk, hs⟩ := Option.bind_eq_some_iff.1 hs
      obtain ⟨cs, hcs, hs⟩ := Option.bind_eq_some_iff.1 hs
      obtain ⟨str, hstr, hs⟩ := Option.map_eq_some_iff.1 hs
      cases hs
      exact .still (.flat _ rfl)
    · cases hs
theorem ok_copyS {t t' : TypeId} {s x : Operand} (hw : HWf h) (hs : copyS P t t' s x e h = some r) (hR : RdOk h p r.rd) : ResOk h p r := by
  unfold copyS at hs
  cases hk : P.underlying t' with
  | none => rw [hk] at hs; cases hs
  | some d' =>
  cases d' with
  | slice e' =>
    cases ht : P.underlying t with
    | none => rw [hk, ht] at hs; cases hs
    | some d =>
    cases d with
    | slice el =>
      rw [hk, ht] at hs
      dsimp only at hs
      cases hz : szOf P el with
      | none => rw [hz] at hs; cases hs
      | some sz =>
        rw [hz] at hs
        dsimp only at hs
        cases hz0 : Nat.beq sz 0
        · rw [hz0] at hs
          simp only [cond_false] at hs
          unfold copyV at hs
          split at hs
          · rename_i rd cs fl n hcs
            split at hs
            · rename_i len cap hes
              cases hq : Nat.beq len 0
              · rw [hq] at hs; cases hs
              · rw [hq] at hs; cases hs; exact .still (.flat _ rfl)
            · rename_i b o len cap hes
              obtain ⟨blk, hblk, hs⟩ := Option.bind_eq_some_iff.1 hs
              obtain ⟨cs1, hcs1, hs⟩ := Option.bind_eq_some_iff.1 hs
              cases hc : !blk.ro && Nat.ble (o + Nat.min n len * sz) blk.cells.length && Nat.ble (Nat.min n len) 9223372036854775807
              · rw [hc] at hs; cases hs
              · rw [hc] at hs
                cases hs
                have hx := ok_cellsOf hw hcs (fun b hb => hR b (by simp [Res.rd, hb]))
                have hb := hR.blk hw (b := b) (by simp [Res.rd]) hblk
                refine ⟨⟨⟨_, hblk⟩, ok_putAll hb.sc (ok_cut hx.sc hcs1), ?_, fun hf => ?_⟩, .flat _ rfl, fun b hb => by simp [Eff.wr] at hb; subst hb; simp⟩
                · exact List.all_eq_true.2 (ok_putAll (c := fun v => plainCell v = true) (List.all_eq_true.1 hb.plain) (ok_cut (c := fun v => plainCell v = true) (List.all_eq_true.1 hx.plain) hcs1))
                · have hf : (blk.flat && fl) = true := hf
                  rw [Bool.and_eq_true] at hf
                  exact ok_putAll (hb.fl hf.1) (ok_cut (hx.fl hf.2) hcs1)
            · cases hs
          · cases hs
        · rw [hz0] at hs; cases hs
    | _ => rw [hk, ht] at hs; cases hs
  | _ => rw [hk] at hs; cases ht : P.underlying t <;> rw [ht] at hs <;> cases hs
theorem step_ok {o : Oper} (hw : HWf h) (hsc : ∀ x ∈ o.op.operands, Sc p (ev e x)) (hs : stepOf P o e h = some r) (hR : RdOk h p r.rd) : ResOk h p r := by
  obtain ⟨dst, op, ty, pos, af, g⟩ := o
  cases op with
  | move x => cases hs; exact .still (hsc x (by simp [Op.operands]))
  | assign x => cases hs; exact .still (hsc x (by simp [Op.operands]))
  | pick c x y => exact ok_pickS (hsc x (by simp [Op.operands])) (hsc y (by simp [Op.operands])) hs
  | alloc t =>
    have hs : allocS P t e h = some r := hs
    unfold allocS at hs
    cases hz : (P.info? t).bind (·.zero) with
    | none => rw [hz] at hs; cases hs
    | some z =>
      rw [hz] at hs
      dsimp only at hs
      cases hf : flat z
      · rw [hf] at hs; cases hs
      · rw [hf] at hs; exact ok_boxV (Sc.of_flat hf) hs
  | box t x => exact ok_boxV (hsc x (by simp [Op.operands])) hs
  | build t parts => exact ok_buildS (fun x hx => hsc x (by simpa [Op.operands] using hx)) hs
  | buildSlice t n parts => exact ok_buildSliceS (fun x hx => hsc x (by simpa [Op.operands] using hx)) hs
  | load t x => exact ok_loadS hw hs hR
  | store t x y => exact ok_storeS hw (hsc y (by simp [Op.operands])) hs hR
  | nilCheck x => exact ok_nilCheckS (hsc x (by simp [Op.operands])) hs
  | fieldAddr s x f => exact ok_fieldAddrS (hsc x (by simp [Op.operands])) hs
  | field s x f => exact ok_fieldS (hsc x (by simp [Op.operands])) hs
  | indexAddr t x i => exact ok_indexAddrS (hsc x (by simp [Op.operands])) hs
  | slice t x lo hi mx =>
    cases mx with
    | none => exact ok_sliceS (hsc x (by simp [Op.operands])) hs
    | some _ => cases hs
  | binOp op t x y t' => exact ok_binS hs
  | unOp op t x => exact ok_unS hs
  | extract t i => exact ok_extractS (hsc t (by simp [Op.operands])) hs
  | convert s d x => exact ok_convertS hs
  | index t x i => exact ok_pure hs
  | makeSlice t l c => exact ok_makeSliceS hs
  | makeFunc f first captured =>
    cases f with
    | func f => exact ok_makeFuncS (fun x hx => hsc x (by simp [Op.operands, hx])) (fun x hx => hsc x (by simp [Op.operands, hx])) hs
    | _ => cases hs
  | call c =>
    obtain ⟨callee, args, ts⟩ := c
    cases callee with
    | value f => exact ok_callS (hsc f (by simp [Op.operands, Call.operands])) (fun x hx => hsc x (by simp [Op.operands, Call.operands]; exact .inr (by simpa using hx))) hs
    | invoke _ _ => cases hs
    | builtin b =>
      cases b with
      | len =>
        obtain ⟨l⟩ := args
        obtain ⟨k⟩ := ts
        match l, k, hs with
        | [x], [t], hs => exact ok_lenS hs
        | [], _, hs => cases hs
        | _ :: _ :: _, _, hs => cases hs
        | [_], [], hs => cases hs
        | [_], _ :: _ :: _, hs => cases hs
      | append =>
        obtain ⟨l⟩ := args
        obtain ⟨k⟩ := ts
        match l, k, hsc, hs with
        | [s, x], [t, t'], hsc, hs => exact ok_appendS hw (hsc s (by simp [Op.operands, Call.operands])) hs hR
        | [], _, _, hs => cases hs
        | [_], _, _, hs => cases hs
        | _ :: _ :: _ :: _, _, _, hs => cases hs
        | [_, _], [], _, hs => cases hs
        | [_, _], [_], _, hs => cases hs
        | [_, _], _ :: _ :: _ :: _, _, hs => cases hs
      | copy =>
        obtain ⟨l⟩ := args
        obtain ⟨k⟩ := ts
        match l, k, hs with
        | [s, x], [t, t'], hs => exact ok_copyS hw hs hR
        | [], _, hs => cases hs
        | [_], _, hs => cases hs
        | _ :: _ :: _ :: _, _, hs => cases hs
        | [_, _], [], hs => cases hs
        | [_, _], [_], hs => cases hs
        | [_, _], _ :: _ :: _ :: _, hs => cases hs
      | max => exact ok_pure hs
      | min => exact ok_pure hs
      | _ => cases hs
  | _ => cases hs
end
end Go.Am
end
section
set_option linter.unusedVariables false
set_option linter.unusedSimpArgs false
namespace Go.Am
open Go.RowKit

structure HRel (B : Nat) (w0 : World) (m : Mp) (G : Nat → Option Blk) (w : World) : Prop where
  below : Below B w0 w
  base : B ≤ w.heap.size
  blk : ∀ b x, G b = some x → BRel B m w b x
  inj : ∀ b b' x x', G b = some x → G b' = some x' → x.ro = false → x'.ro = false → (m b).blk = (m b').blk → b = b'
/-- what turns from one state to a later one -/
structure CEvo (p : Nat → Prop) (m m' : Mp) (G G' : Nat → Option Blk) (w w' : World) : Prop where
  keep : ∀ b, p b → m' b = m b
  size : w.heap.size ≤ w'.heap.size
  far : ∀ k, k < w.heap.size → (∀ b x, G b = some x → x.ro = false → (m b).blk ≠ k) → w'.heap[k]? = w.heap[k]?
  fresh : ∀ b x, G' b = some x → x.ro = false → ¬ p b → w.heap.size ≤ (m' b).blk ∨ ∃ b0 x0, G b0 = some x0 ∧ x0.ro = false ∧ (m' b).blk = (m b0).blk
  old : ∀ b x, p b → G' b = some x → ∃ x0, G b = some x0 ∧ x0.ro = x.ro
theorem CEvo.refl {p : Nat → Prop} {m : Mp} {G : Nat → Option Blk} {w : World} (hp : ∀ b x, G b = some x → p b) : CEvo p m m G G w w :=
  ⟨fun _ _ => rfl, Nat.le_refl _, fun _ _ _ => rfl, fun b x hb _ hn => absurd (hp b x hb) hn, fun b x _ hb => ⟨x, hb, rfl⟩⟩
theorem CEvo.trans {p q : Nat → Prop} {m m1 m2 : Mp} {G G1 G2 : Nat → Option Blk} {w w1 w2 : World} (a : CEvo p m m1 G G1 w w1) (b : CEvo q m1 m2 G1 G2 w1 w2) (hpq : ∀ x, p x → q x) : CEvo p m m2 G G2 w w2 := by
  have img : ∀ k, k < w.heap.size → (∀ b x, G b = some x → x.ro = false → (m b).blk ≠ k) → ∀ c x, G1 c = some x → x.ro = false → (m1 c).blk ≠ k := by
    intro k hk hne c x hc hro
    by_cases hcn : p c
    · obtain ⟨x0, hx0, hr⟩ := a.old c x hcn hc
      rw [a.keep c hcn]
      exact hne c x0 hx0 (by rw [hr]; exact hro)
    · rcases a.fresh c x hc hro hcn with hh | ⟨b0, x0, h1, h2, h3⟩
      · omega
      · rw [h3]; exact hne b0 x0 h1 h2
  refine ⟨fun c hc => (b.keep c (hpq c hc)).trans (a.keep c hc), Nat.le_trans a.size b.size, fun k hk hne => (b.far k (Nat.lt_of_lt_of_le hk a.size) (img k hk hne)).trans (a.far k hk hne), ?_, ?_⟩
  · intro c x hc hro hn
    by_cases h1n : q c
    · obtain ⟨x0, hx0, hr⟩ := b.old c x h1n hc
      rw [b.keep c h1n]
      exact a.fresh c x0 hx0 (by rw [hr]; exact hro) hn
    · rcases b.fresh c x hc hro h1n with hh | ⟨b0, x0, k1, k2, k3⟩
      · exact .inl (Nat.le_trans a.size hh)
      · rw [k3]
        by_cases hbn : p b0
        · obtain ⟨x1, hx1, hr⟩ := a.old b0 x0 hbn k1
          exact .inr ⟨b0, x1, hx1, by rw [hr]; exact k2, by rw [a.keep b0 hbn]⟩
        · exact a.fresh b0 x0 k1 k2 hbn
  · intro c x hc hx
    obtain ⟨x1, hx1, hr⟩ := b.old c x (hpq c hc) hx
    obtain ⟨x0, hx0, hr0⟩ := a.old c x1 hc hx1
    exact ⟨x0, hx0, hr0.trans hr⟩
theorem BRel.ro_lt {B : Nat} {m : Mp} {w : World} {b : Nat} {x : Blk} (h : BRel B m w b x) (hr : x.ro = true) : (m b).blk < B := by
  obtain ⟨_, _, _, _, _, _, _, hh⟩ := h
  rw [hr] at hh; exact hh
theorem BRel.own_ge {B : Nat} {m : Mp} {w : World} {b : Nat} {x : Blk} (h : BRel B m w b x) (hr : x.ro = false) : B ≤ (m b).blk := by
  obtain ⟨_, _, _, _, _, _, _, hh⟩ := h
  rw [hr] at hh; exact hh.1
def effG (G : Nat → Option Blk) (n : Nat) : Eff → Nat → Option Blk
  | .non => G
  | .new x => fun b => if b = n then some x else G b
  | .set c x => fun b => if b = c then some x else G b
  | .mv c x => fun b => if b = n then some x else if b = c then none else G b
theorem effG_heap (h : Heap) (f : Eff) : (h.eff f).get = effG h.get h.next f := by
  funext b
  cases f with
  | non => rfl
  | new x =>
    simp only [Heap.eff, effG]
    by_cases hb : b = h.next
    · subst hb; rw [Heap.get_alloc_same, if_pos rfl]
    · rw [Heap.get_alloc_ne h x hb, if_neg hb]
  | set c x =>
    simp only [Heap.eff, effG]
    by_cases hb : b = c
    · subst hb; rw [Heap.get_set_same, if_pos rfl]
    · rw [Heap.get_set_ne h x (Ne.symm hb), if_neg hb]
  | mv c x =>
    simp only [Heap.eff, effG]
    by_cases hb : b = h.next
    · subst hb
      rw [if_pos rfl]
      exact Heap.get_alloc_same (h.kill c) x
    · rw [Heap.get_alloc_ne _ x (by simpa [Heap.kill] using hb), if_neg hb]
      by_cases hc : b = c
      · subst hc; rw [Heap.get_kill_same, if_pos rfl]
      · rw [Heap.get_kill_ne h (Ne.symm hc), if_neg hc]
/-- the blocks that are written are there -/
def Live (G : Nat → Option Blk) : Eff → Prop
  | .set c _ | .mv c _ => ∃ y, G c = some y
  | _ => True
section
variable {B : Nat} {w0 : World} {m m' : Mp} {G : Nat → Option Blk} {h : Heap} {w w' : World} {f : Eff} {p : Nat → Prop}
theorem HRel.eff (hr : HRel B w0 m G w) (hG : ∀ b x, G b = some x → p b ∧ ∀ v ∈ x.cells, Sc p v) (hpn : f.isNew = true → ¬ p h.next) (hf : Live G f) (hd : Done B m m' h w w' f) :
    HRel B w0 m' (effG G h.next f) w' ∧ CEvo p m m' G (effG G h.next f) w w' := by
  have hkeep : ∀ b, p b → m' b = m b := by
    intro b hb
    cases hn : f.isNew
    · rw [hd.same hn]
    · exact hd.keep b fun hh => hpn hn (hh ▸ hb)
  have hsz : w.heap.size ≤ w'.heap.size := hd.below.size
  have hlive : ∀ b ∈ f.wr, ∃ y, G b = some y := by
    intro b hb
    cases f with
    | non => cases hb
    | new x => cases hb
    | set c x => simp [Eff.wr] at hb; subst hb; exact hf
    | mv c x => simp [Eff.wr] at hb; subst hb; exact hf
  have farE : ∀ k, k < w.heap.size → (∀ b x, G b = some x → x.ro = false → (m b).blk ≠ k) → w'.heap[k]? = w.heap[k]? := by
    intro k hk hne
    by_cases hc : ∀ b ∈ f.wr, (m b).blk ≠ k
    · exact hd.far k hk hc
    · have : ∃ b, b ∈ f.wr ∧ (m b).blk = k := by
        refine Classical.byContradiction fun hh => hc fun b hb he => hh ⟨b, hb, he⟩
      obtain ⟨b, hb, rfl⟩ := this
      obtain ⟨y, hy⟩ := hlive b hb
      cases hro : y.ro
      · exact absurd rfl (hne b y hy hro)
      · exact hd.below.block _ ((hr.blk b y hy).ro_lt hro)
  -- an old block that is not written is as it was
  have stays : ∀ b x, G b = some x → (∀ c ∈ f.wr, c ≠ b) → (∀ c ∈ f.wr, ∀ y, G c = some y → y.ro = false ∨ (m c).blk < B) → BRel B m' w' b x := by
    intro b x hb hne hown
    have hbr := hr.blk b x hb
    refine (hbr.world (w' := w') ?_).moved (p := p) hkeep (hkeep b (hG b x hb).1) (hG b x hb).2
    cases hro : x.ro
    · refine hd.far _ hbr.lt fun c hc he => ?_
      obtain ⟨y, hy⟩ := hlive c hc
      rcases hown c hc y hy with h1 | h1
      · exact hne c hc (hr.inj c b y x hy hb h1 hro he)
      · have := hbr.own_ge hro; omega
    · exact hd.below.block _ (hbr.ro_lt hro)
  have roOr : ∀ c y, G c = some y → y.ro = false ∨ (m c).blk < B := by
    intro c y hy
    cases hro : y.ro
    · exact .inl rfl
    · exact .inr ((hr.blk c y hy).ro_lt hro)
  have hnp : ∀ {b x}, f.isNew = true → G b = some x → b ≠ h.next := fun {b x} hn hb hh => hpn hn (hh ▸ (hG b x hb).1)
  cases f with
  | non =>
    refine ⟨⟨hr.below.trans hd.below, Nat.le_trans hr.base hsz, fun b x hb => stays b x hb (fun c hc => by cases hc) (fun c hc => by cases hc), fun b b' x x' hb hb' h1 h2 he => ?_⟩, ⟨hkeep, hsz, farE, fun b x hb _ hn => absurd (hG b x hb).1 hn, fun b x _ hb => ⟨x, hb, rfl⟩⟩⟩
    rw [hkeep b (hG b x hb).1, hkeep b' (hG b' x' hb').1] at he
    exact hr.inj b b' x x' hb hb' h1 h2 he
  | new y =>
    obtain ⟨k1, k2, k3⟩ := hd.eff
    have split : ∀ {b x}, effG G h.next (.new y) b = some x → (b = h.next ∧ x = y) ∨ (b ≠ h.next ∧ G b = some x) := by
      intro b x hb
      simp only [effG] at hb
      split at hb
      · cases hb; exact .inl ⟨by assumption, rfl⟩
      · exact .inr ⟨by assumption, hb⟩
    refine ⟨⟨hr.below.trans hd.below, Nat.le_trans hr.base hsz, fun b x hb => ?_, fun b b' x x' hb hb' h1 h2 he => ?_⟩, ⟨hkeep, hsz, farE, fun b x hb _ hn => ?_, fun b x hn hb => ?_⟩⟩
    · rcases split hb with ⟨rfl, rfl⟩ | ⟨hbn, hg⟩
      · exact k1
      · exact stays b x hg (fun c hc => by cases hc) (fun c hc => by cases hc)
    · rcases split hb with ⟨rfl, rfl⟩ | ⟨hbn, hg⟩ <;> rcases split hb' with ⟨rfl, rfl⟩ | ⟨hbn', hg'⟩
      · rfl
      · rw [hkeep b' (hG b' x' hg').1] at he
        have := (hr.blk b' x' hg').lt
        omega
      · rw [hkeep b (hG b x hg).1] at he
        have := (hr.blk b x hg).lt
        omega
      · rw [hkeep b (hG b x hg).1, hkeep b' (hG b' x' hg').1] at he
        exact hr.inj b b' x x' hg hg' h1 h2 he
    · rcases split hb with ⟨rfl, rfl⟩ | ⟨hbn, hg⟩
      · exact .inl k2
      · exact absurd (hG b x hg).1 hn
    · rcases split hb with ⟨rfl, rfl⟩ | ⟨hbn, hg⟩
      · exact absurd hn (hpn rfl)
      · exact ⟨x, hg, rfl⟩
  | set c y =>
    obtain ⟨k1, k2⟩ := hd.eff
    obtain ⟨y0, hy0⟩ := hf
    have hcB := k1.own_ge k2
    rw [hkeep c (hG c y0 hy0).1] at hcB
    have hy0r : y0.ro = false := by
      cases hro : y0.ro
      · rfl
      · have := (hr.blk c y0 hy0).ro_lt hro; omega
    have split : ∀ {b x}, effG G h.next (.set c y) b = some x → (b = c ∧ x = y) ∨ (b ≠ c ∧ G b = some x) := by
      intro b x hb
      simp only [effG] at hb
      split at hb
      · cases hb; exact .inl ⟨by assumption, rfl⟩
      · exact .inr ⟨by assumption, hb⟩
    have live : ∀ {b x}, effG G h.next (.set c y) b = some x → x.ro = false → ∃ x0, G b = some x0 ∧ x0.ro = false := by
      intro b x hb h1
      rcases split hb with ⟨rfl, rfl⟩ | ⟨hbn, hg⟩
      · exact ⟨y0, hy0, hy0r⟩
      · exact ⟨x, hg, h1⟩
    refine ⟨⟨hr.below.trans hd.below, Nat.le_trans hr.base hsz, fun b x hb => ?_, fun b b' x x' hb hb' h1 h2 he => ?_⟩, ⟨hkeep, hsz, farE, fun b x hb _ hn => ?_, fun b x hn hb => ?_⟩⟩
    · rcases split hb with ⟨rfl, rfl⟩ | ⟨hbn, hg⟩
      · exact k1
      · exact stays b x hg (fun d hd' => by simp [Eff.wr] at hd'; subst hd'; exact Ne.symm hbn) (fun d _ z hz => roOr d z hz)
    · obtain ⟨z, hz, hzr⟩ := live hb h1
      obtain ⟨z', hz', hzr'⟩ := live hb' h2
      rw [hkeep b (hG b z hz).1, hkeep b' (hG b' z' hz').1] at he
      exact hr.inj b b' z z' hz hz' hzr hzr' he
    · rcases split hb with ⟨rfl, rfl⟩ | ⟨hbn, hg⟩
      · exact absurd (hG _ y0 hy0).1 hn
      · exact absurd (hG b x hg).1 hn
    · rcases split hb with ⟨rfl, rfl⟩ | ⟨hbn, hg⟩
      · exact ⟨y0, hy0, hy0r.trans k2.symm⟩
      · exact ⟨x, hg, rfl⟩
  | mv c y =>
    obtain ⟨k1, k2, k3⟩ := hd.eff
    obtain ⟨y0, hy0⟩ := hf
    have hnB := k1.own_ge k3
    have split : ∀ {b x}, effG G h.next (.mv c y) b = some x → (b = h.next ∧ x = y) ∨ (b ≠ h.next ∧ b ≠ c ∧ G b = some x) := by
      intro b x hb
      simp only [effG] at hb
      split at hb
      · cases hb; exact .inl ⟨by assumption, rfl⟩
      · split at hb
        · cases hb
        · exact .inr ⟨by assumption, by assumption, hb⟩
    have y0r : (m' h.next).blk = (m c).blk → y0.ro = false := by
      intro he
      cases hro : y0.ro
      · rfl
      · have := (hr.blk c y0 hy0).ro_lt hro; omega
    have cross : ∀ {b x}, b ≠ c → G b = some x → x.ro = false → (m' h.next).blk ≠ (m' b).blk := by
      intro b x hbc hb hro he
      rw [hkeep b (hG b x hb).1] at he
      rcases k2 with k2 | k2
      · exact hbc (hr.inj c b y0 x hy0 hb (y0r k2) hro (k2.symm.trans he)).symm
      · have := (hr.blk b x hb).lt; omega
    refine ⟨⟨hr.below.trans hd.below, Nat.le_trans hr.base hsz, fun b x hb => ?_, fun b b' x x' hb hb' h1 h2 he => ?_⟩, ⟨hkeep, hsz, farE, fun b x hb _ hn => ?_, fun b x hn hb => ?_⟩⟩
    · rcases split hb with ⟨rfl, rfl⟩ | ⟨hbn, hbc, hg⟩
      · exact k1
      · exact stays b x hg (fun d hd' => by simp [Eff.wr] at hd'; subst hd'; exact Ne.symm hbc) (fun d _ z hz => roOr d z hz)
    · rcases split hb with ⟨rfl, rfl⟩ | ⟨hbn, hbc, hg⟩ <;> rcases split hb' with ⟨rfl, rfl⟩ | ⟨hbn', hbc', hg'⟩
      · rfl
      · exact absurd he (cross hbc' hg' h2)
      · exact absurd he.symm (cross hbc hg h1)
      · rw [hkeep b (hG b x hg).1, hkeep b' (hG b' x' hg').1] at he
        exact hr.inj b b' x x' hg hg' h1 h2 he
    · rcases split hb with ⟨rfl, rfl⟩ | ⟨hbn, hbc, hg⟩
      · rcases k2 with k2 | k2
        · exact .inr ⟨c, y0, hy0, y0r k2, k2⟩
        · exact .inl k2
      · exact absurd (hG b x hg).1 hn
    · rcases split hb with ⟨rfl, rfl⟩ | ⟨hbn, hbc, hg⟩
      · exact absurd hn (hpn rfl)
      · exact ⟨x, hg, rfl⟩
end
end Go.Am
end
