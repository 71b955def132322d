/- Code walked piece by piece: what follows stays hidden while a region is run. -/
import Derived.Test.YtlnjhllfacmkoaaGreatAm27
set_option linter.unusedVariables false
set_option linter.unusedSectionVars false
namespace Go.Am
section
variable {P : Program} {cf : CallF} {D : Draws} {Q : QQ} {K : Env → Heap → Prop} {e : Env} {h : Heap}
theorem W.seq {a b : Code} (k : Wp P cf D a (thenQ (Wp P cf D b Q) Q) e h) : Wp P cf D (.seq a b) Q e h := by rw [wq_seq]; exact k
theorem W.block {id : Nat} {b : Code} (k : Wp P cf D b (blockQ id Q) e h) : Wp P cf D (.block id b) Q e h := by rw [wq_block]; exact k
theorem W.scope {b : Code} (k : Wp P cf D b Q e h) : Wp P cf D (.scope b) Q e h := by rw [wq_scope]; exact k
theorem W.skip (k : Q .normal e h) : Wp P cf D .skip Q e h := by rw [wq_skip]; exact k
theorem W.label {l : Nat} (k : Q .normal e h) : Wp P cf D (.label l) Q e h := by rw [wq_label]; exact k
theorem W.ret (k : Q .ret e h) : Wp P cf D .ret Q e h := by rw [wq_ret]; exact k
theorem W.exit {id : Nat} (k : Q (.exit id) e h) : Wp P cf D (.exit id) Q e h := by rw [wq_exit]; exact k
theorem W.cond {c : Operand} {t f : Code} {b : Bool} (hb : ev e c = .bool b) (ht : b = true → Wp P cf D t Q e h) (hf : b = false → Wp P cf D f Q e h) : Wp P cf D (.cond c t f) Q e h := by
  rw [wq_cond, hb]
  cases b
  · exact hf rfl
  · exact ht rfl
theorem W.condP {c : Operand} {t f : Code} {p : Prop} [Decidable p] (hb : ev e c = .bool (decide p)) (ht : p → Wp P cf D t Q e h) (hf : ¬ p → Wp P cf D f Q e h) : Wp P cf D (.cond c t f) Q e h :=
  W.cond hb (fun h => ht (of_decide_eq_true h)) (fun h => hf (of_decide_eq_false h))
theorem W.condT {c : Operand} {t f : Code} (hb : ev e c = .bool true) (ht : Wp P cf D t Q e h) : Wp P cf D (.cond c t f) Q e h := W.cond hb (fun _ => ht) (fun h => by cases h)
theorem W.condF {c : Operand} {t f : Code} (hb : ev e c = .bool false) (hf : Wp P cf D f Q e h) : Wp P cf D (.cond c t f) Q e h := W.cond hb (fun h => by cases h) (fun _ => hf)
theorem W.thenN (k : K e h) : thenQ K Q .normal e h := k
theorem W.thenE {id : Nat} (k : Q (.exit id) e h) : thenQ K Q (.exit id) e h := k
theorem W.thenR (k : Q .ret e h) : thenQ K Q .ret e h := k
theorem W.blockN {id : Nat} (k : Q .normal e h) : blockQ id Q .normal e h := k
theorem W.blockR {id : Nat} (k : Q .ret e h) : blockQ id Q .ret e h := k
theorem W.blockE {id : Nat} (k : Q .normal e h) : blockQ id Q (.exit id) e h := by rw [blockQ_exit, if_pos rfl]; exact k
theorem W.blockX {id id' : Nat} (hn : id' ≠ id) (k : Q (.exit id') e h) : blockQ id Q (.exit id') e h := by rw [blockQ_exit, if_neg hn]; exact k
theorem opsQ_mono {all : List Oper} {K' : Env → Heap → Prop} (hk : ∀ e h, K e h → K' e h) : ∀ {l : List Oper}, opsQ P cf all l K e h → opsQ P cf all l K' e h := by
  intro l hh
  unfold opsQ at hh ⊢
  cases ho : ops P cf all l e h with
  | none => rw [ho] at hh; exact hh
  | some r => obtain ⟨e1, h1⟩ := r; rw [ho] at hh; exact hk _ _ hh
/-- a region in the order of the text: with what follows hidden -/
theorem W.region {id : Nat} {os : Array Oper} (k : ∀ K : Env → Heap → Prop, (∀ e h, Q .normal e h → K e h) → opsQ P cf os.toList os.toList K e h) : Wp P cf D (.region id os false) Q e h := by
  rw [wq_region]; exact k _ fun _ _ h => h
theorem W.draw {id : Nat} {os : Array Oper} (hd : D id = some []) (k : ∀ K : Env → Heap → Prop, (∀ e h, Q .normal e h → K e h) → opsQ P cf os.toList os.toList K e h) : Wp P cf D (.region id os true) Q e h := by
  rw [wq_draw0 id os hd]; exact k _ fun _ _ h => h
theorem W.drawP {id : Nat} {os : Array Oper} (d : Option (List (Nat × Nat))) (hd : D id = d) (k : ∀ K : Env → Heap → List Foot → Prop, (∀ e h fs, drawOk d fs = true → Q .normal e h → K e h fs) → opsFQ P cf os.toList os.toList K e h) : Wp P cf D (.region id os true) Q e h := by
  rw [wq_draw, hd]; exact k _ fun _ _ _ h1 h2 => ⟨h1, h2⟩
theorem W.regionA {id : Nat} {os : Array Oper} (k : ∀ A : List Oper, A = os.toList → ∀ K : Env → Heap → Prop, (∀ e h, Q .normal e h → K e h) → opsQ P cf A os.toList K e h) : Wp P cf D (.region id os false) Q e h := W.region (k _ rfl)
theorem W.drawA {id : Nat} {os : Array Oper} (hd : D id = some []) (k : ∀ A : List Oper, A = os.toList → ∀ K : Env → Heap → Prop, (∀ e h, Q .normal e h → K e h) → opsQ P cf A os.toList K e h) : Wp P cf D (.region id os true) Q e h := W.draw hd (k _ rfl)
theorem W.drawPA {id : Nat} {os : Array Oper} (d : Option (List (Nat × Nat))) (hd : D id = d) (k : ∀ A : List Oper, A = os.toList → ∀ K : Env → Heap → List Foot → Prop, (∀ e h fs, drawOk d fs = true → Q .normal e h → K e h fs) → opsFQ P cf A os.toList K e h) : Wp P cf D (.region id os true) Q e h := W.drawP d hd (k _ rfl)
/-- the slot of a guard, once for all -/
theorem guardAt {A l : List Oper} (hA : A = l) {j : Nat} {d : Tmp} (hd : (l[j]?).bind (·.dst) = some d) (want : Bool) (e : Env) : guardOf A j want e = isBool want (e.get d) := by
  subst hA; unfold guardOf; rw [hd]
/-- how the slots came to be is left behind -/
theorem W.forget {R : Env → Heap → Prop} (k : ∀ e2, e2 = e → R e2 h) : R e h := k e rfl
theorem W.fork {A B : Prop} {b : Bool} (ht : b = true → A) (hf : b = false → B) : forkQ A B b := by
  cases b
  · exact hf rfl
  · exact ht rfl
theorem W.forkP {A B : Prop} {p : Prop} [Decidable p] (ht : p → A) (hf : ¬ p → B) : forkQ A B (decide p) := W.fork (fun h => ht (of_decide_eq_true h)) (fun h => hf (of_decide_eq_false h))
end
end Go.Am
