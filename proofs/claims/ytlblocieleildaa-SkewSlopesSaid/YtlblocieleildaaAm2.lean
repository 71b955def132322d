/- The abstract machine's maps: what is put is got, what is not put is as it was. -/
import Derived.Test.YtlblocieleildaaAm1
namespace Go.Am

theorem Tr.atW_nil {α : Type} (t : Tr α) : Tr.atW [] t = t.val := rfl
theorem Tr.atW_cons {α : Type} (b : Bool) (p : List Bool) (t : Tr α) : Tr.atW (b :: p) t = Tr.atW p (if b then t.left else t.right) := by cases b <;> rfl
theorem Tr.putW_nil {α : Type} (x : Option α) (t : Tr α) : Tr.putW x [] t = .node x t.left t.right := rfl
theorem Tr.putW_cons {α : Type} (x : Option α) (b : Bool) (p : List Bool) (t : Tr α) : Tr.putW x (b :: p) t = if b then .node t.val (Tr.putW x p t.left) t.right else .node t.val t.left (Tr.putW x p t.right) := by cases b <;> rfl
theorem Tr.at_put_same {α : Type} (x : Option α) : ∀ (p : List Bool) (t : Tr α), Tr.atW p (Tr.putW x p t) = x
  | [], _ => rfl
  | b :: p, t => by rw [putW_cons, atW_cons]; cases b <;> simp [Tr.left, Tr.right, at_put_same x p]
theorem Tr.at_put_ne {α : Type} (x : Option α) : ∀ (p q : List Bool) (t : Tr α), p ≠ q → Tr.atW q (Tr.putW x p t) = Tr.atW q t
  | [], [], _, h => absurd rfl h
  | [], b :: q, t, _ => by rw [putW_nil, atW_cons, atW_cons]; rfl
  | b :: p, [], t, _ => by rw [putW_cons, atW_nil, atW_nil]; cases b <;> rfl
  | b :: p, c :: q, t, h => by
    rw [putW_cons, atW_cons, atW_cons]
    by_cases e : b = c
    · subst e
      have h' : p ≠ q := fun hh => h (by rw [hh])
      cases b <;> simp [Tr.left, Tr.right, at_put_ne x p q _ h']
    · cases b <;> cases c <;> simp_all [Tr.left, Tr.right]
def code : List Bool → Nat
  | [] => 0
  | b :: p => 2 * code p + if b then 1 else 2
theorem code_way : ∀ (f k : Nat), k ≤ f → code (way f k) = k
  | 0, k, h => by simp [way, code]; omega
  | f + 1, 0, _ => rfl
  | f + 1, k + 1, h => by
    have e : way (f + 1) (k + 1) = (Nat.beq (Nat.mod (k + 1) 2) 1) :: way f (k / 2) := rfl
    rw [e, code, code_way f (k / 2) (by omega)]
    by_cases c : (k + 1) % 2 = 1
    · have : Nat.beq (Nat.mod (k + 1) 2) 1 = true := by rw [Nat.beq_eq]; exact c
      rw [this]; simp; omega
    · have : Nat.beq (Nat.mod (k + 1) 2) 1 = false := by
        cases hh : Nat.beq (Nat.mod (k + 1) 2) 1
        · rfl
        · rw [Nat.beq_eq] at hh; exact absurd hh c
      rw [this]; simp; omega
theorem way_inj {k j : Nat} (h : way k k = way j j) : k = j := by
  rw [← code_way k k (Nat.le_refl k), h, code_way j j (Nat.le_refl j)]
theorem Tr.get_put_same {α : Type} (x : Option α) (k : Nat) (t : Tr α) : Tr.getF k (Tr.putF x k t) = x := at_put_same _ _ _
theorem Tr.get_put_ne {α : Type} (x : Option α) {k j : Nat} (t : Tr α) (h : k ≠ j) : Tr.getF j (Tr.putF x k t) = Tr.getF j t := at_put_ne _ _ _ _ fun e => h (way_inj e)
theorem Tr.get_leaf {α : Type} (k : Nat) : Tr.getF k (Tr.leaf : Tr α) = none := by
  unfold getF
  generalize way k k = p
  induction p with
  | nil => rfl
  | cons b p ih => rw [atW_cons]; cases b <;> simpa [Tr.left, Tr.right] using ih

theorem Env.get_set_same (e : Env) (t : Tmp) (v : Value) : (Env.set e t v).get t = v := by simp [Env.get, Env.set, Tr.get_put_same]
theorem Env.get_set_ne (e : Env) {t u : Tmp} (v : Value) (h : t ≠ u) : (Env.set e t v).get u = Env.get e u := by simp [Env.get, Env.set, Tr.get_put_ne _ _ h]
theorem Env.get_set (e : Env) (t u : Tmp) (v : Value) : (Env.set e t v).get u = if t = u then v else Env.get e u := by
  by_cases h : t = u
  · subst h; simp [Env.get_set_same]
  · simp [Env.get_set_ne e v h, h]
theorem Env.put_none (e : Env) (v : Value) : e.put none v = e := rfl
theorem Env.put_some (e : Env) (t : Tmp) (v : Value) : e.put (some t) v = e.set t v := rfl

theorem Heap.get_alloc_same (h : Heap) (x : Blk) : (h.alloc x).get h.next = some x := by simp [Heap.get, Heap.alloc, Tr.get_put_same]
theorem Heap.get_alloc_ne (h : Heap) (x : Blk) {b : Nat} (hb : b ≠ h.next) : (h.alloc x).get b = h.get b := by simp [Heap.get, Heap.alloc, Tr.get_put_ne _ _ (Ne.symm hb)]
theorem Heap.get_set_same (h : Heap) (b : Nat) (x : Blk) : (h.set b x).get b = some x := by simp [Heap.get, Heap.set, Tr.get_put_same]
theorem Heap.get_set_ne (h : Heap) (x : Blk) {b c : Nat} (hb : b ≠ c) : (h.set b x).get c = h.get c := by simp [Heap.get, Heap.set, Tr.get_put_ne _ _ hb]
theorem Heap.get_kill_same (h : Heap) (b : Nat) : (h.kill b).get b = none := by simp [Heap.get, Heap.kill, Tr.get_put_same]
theorem Heap.get_kill_ne (h : Heap) {b c : Nat} (hb : b ≠ c) : (h.kill b).get c = h.get c := by simp [Heap.get, Heap.kill, Tr.get_put_ne _ _ hb]
theorem Heap.next_alloc (h : Heap) (x : Blk) : (h.alloc x).next = h.next + 1 := rfl
theorem Heap.next_set (h : Heap) (b : Nat) (x : Blk) : (h.set b x).next = h.next := rfl
theorem Heap.next_kill (h : Heap) (b : Nat) : (h.kill b).next = h.next := rfl
theorem Heap.wr_alloc (h : Heap) (x : Blk) : (h.alloc x).wr = h.wr := rfl
theorem Heap.wr_set (h : Heap) (b : Nat) (x : Blk) : (h.set b x).wr = if b < h.wr then b else h.wr := rfl
theorem Heap.wr_kill (h : Heap) (b : Nat) : (h.kill b).wr = if b < h.wr then b else h.wr := rfl
end Go.Am
