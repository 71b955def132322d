/- The abstract machine run by rewriting: what each piece of code asks of what comes behind it. -/
import Derived.Test.YtlnjhllfacmkoaaGreatAm23
set_option linter.unusedVariables false
set_option linter.unusedSimpArgs false
set_option linter.unusedSectionVars false
namespace Go.Am
open Go.RowKit

abbrev QQ := AExit → Env → Heap → Prop
def outQ (Q : QQ) : Out → Prop
  | some (x, e, h) => Q x e h
  | none => False
def Wp (P : Program) (cf : CallF) (D : Draws) (c : Code) (Q : QQ) (e : Env) (h : Heap) : Prop := outQ Q (execW P D cf c e h)
def thenQ (K : Env → Heap → Prop) (Q : QQ) : QQ
  | .normal, e, h => K e h
  | x, e, h => Q x e h
/-- a mark that keeps the rewriting out of both arms while the truth value is not known -/
inductive Tag (A B : Prop) : Type
  | mk
/-- one of two, by a truth value -/
def forkQ (A B : Prop) (b : Bool) (t : Tag A B := .mk) : Prop := if b = true then A else B
def condQ (T F : Env → Heap → Prop) (e : Env) (h : Heap) : Value → Prop
  | .bool b => forkQ (T e h) (F e h) b
  | _ => False
def blockQ (id : Nat) (Q : QQ) : QQ
  | .exit id', e, h => if id' = id then Q .normal e h else Q (.exit id') e h
  | x, e, h => Q x e h
def opsQ (P : Program) (cf : CallF) (all l : List Oper) (K : Env → Heap → Prop) (e : Env) (h : Heap) : Prop := match ops P cf all l e h with
  | some (e', h') => K e' h'
  | none => False
def retQ (K : Value → Heap → Prop) : Option (Value × Heap × Bool) → Prop
  | some (v, h, _) => K v h
  | none => False
def resQ (cf : CallF) (dst : Option Tmp) (K : Env → Heap → Prop) (e : Env) (h : Heap) : Option Res → Prop
  | some (.val v _ f) => K (e.put dst v) (h.eff f)
  | some (.unit _ f) => K (e.put dst undef) (h.eff f)
  | some (.enter f args) => retQ (fun v h' => K (e.put dst v) h') (cf f args h)
  | none => False
def guardQ (A B : Prop) : Option Bool → Prop
  | some b => forkQ A B b
  | none => False
/-- regions whose order is open -/
def opsFQ (P : Program) (cf : CallF) (all l : List Oper) (K : Env → Heap → List Foot → Prop) (e : Env) (h : Heap) : Prop := match opsF P cf all l e h with
  | some (e', h', fs) => K e' h' fs
  | none => False
def retFQ (h : Heap) (K : Value → Heap → Foot → Prop) : Option (Value × Heap × Bool) → Prop
  | some (v, h', q) => K v h' ⟨true, !q, h.next, h'.next, [], []⟩
  | none => False
def resFQ (cf : CallF) (dst : Option Tmp) (K : Env → Heap → Foot → Prop) (e : Env) (h : Heap) : Option Res → Prop
  | some (.val v rd f) => K (e.put dst v) (h.eff f) (Foot.mk1 h rd f)
  | some (.unit rd f) => K (e.put dst undef) (h.eff f) (Foot.mk1 h rd f)
  | some (.enter f args) => retFQ h (fun v h' f => K (e.put dst v) h' f) (cf f args h)
  | none => False
theorem forkQ_true (A B : Prop) : forkQ A B true = A := if_pos rfl
theorem forkQ_false (A B : Prop) : forkQ A B false = B := if_neg (by simp)
theorem forkQ_not (A B : Prop) (b : Bool) : forkQ A B (!b) = forkQ B A b := by cases b <;> rfl
/-- the truth value alone is run; the two arms wait -/
@[congr] theorem forkQ_congr {A B : Prop} {b b' : Bool} (hb : b = b') : forkQ A B b = forkQ A B b' := by rw [hb]
@[congr] theorem guardQ_congr {A B : Prop} {b b' : Option Bool} (hb : b = b') : guardQ A B b = guardQ A B b' := by rw [hb]
@[congr] theorem retQ_congr {K : Value → Heap → Prop} {r r' : Option (Value × Heap × Bool)} (hr : r = r') : retQ K r = retQ K r' := by rw [hr]
@[congr] theorem retFQ_congr {h : Heap} {K : Value → Heap → Foot → Prop} {r r' : Option (Value × Heap × Bool)} (hr : r = r') : retFQ h K r = retFQ h K r' := by rw [hr]
@[congr] theorem resQ_congr {cf : CallF} {dst : Option Tmp} {K : Env → Heap → Prop} {e : Env} {h : Heap} {r r' : Option Res} (hr : r = r') : resQ cf dst K e h r = resQ cf dst K e h r' := by rw [hr]
@[congr] theorem resFQ_congr {cf : CallF} {dst : Option Tmp} {K : Env → Heap → Foot → Prop} {e : Env} {h : Heap} {r r' : Option Res} (hr : r = r') : resFQ cf dst K e h r = resFQ cf dst K e h r' := by rw [hr]
@[congr] theorem opsQ_congr {P : Program} {cf : CallF} {all l : List Oper} {K : Env → Heap → Prop} {e e' : Env} {h h' : Heap} (he : e = e') (hh : h = h') : opsQ P cf all l K e h = opsQ P cf all l K e' h' := by rw [he, hh]
@[congr] theorem opsFQ_congr {P : Program} {cf : CallF} {all l : List Oper} {K : Env → Heap → List Foot → Prop} {e e' : Env} {h h' : Heap} (he : e = e') (hh : h = h') : opsFQ P cf all l K e h = opsFQ P cf all l K e' h' := by rw [he, hh]
section
variable {P : Program} {cf : CallF} {D : Draws} {Q : QQ} {e : Env} {h : Heap}
theorem outQ_iff {o : Out} : outQ Q o ↔ ∃ x e h, o = some (x, e, h) ∧ Q x e h := by
  cases o with
  | none => exact ⟨fun h => h.elim, fun ⟨_, _, _, h, _⟩ => by cases h⟩
  | some r => obtain ⟨x, e, h⟩ := r; exact ⟨fun q => ⟨x, e, h, rfl, q⟩, fun ⟨_, _, _, h, q⟩ => by cases h; exact q⟩
theorem outQ_seqK {k : Env → Heap → Out} {o : Out} : outQ Q (seqK k o) = outQ (thenQ (fun e h => outQ Q (k e h)) Q) o := by
  cases o with
  | none => rfl
  | some r => obtain ⟨x, e, h⟩ := r; cases x <;> rfl
theorem wq_seq (a b : Code) : Wp P cf D (.seq a b) Q e h = Wp P cf D a (thenQ (Wp P cf D b Q) Q) e h := by
  unfold Wp; rw [execW_seq, outQ_seqK]
theorem wq_loop (b : Code) : Wp P cf D (.loop b) Q e h = Wp P cf D b (thenQ (Wp P cf D (.loop b) Q) Q) e h := by
  show outQ Q _ = _; rw [execW_loop, outQ_seqK]; rfl
theorem wq_skip : Wp P cf D .skip Q e h = Q .normal e h := by unfold Wp; rw [execW_skip]; rfl
theorem wq_label (l : Nat) : Wp P cf D (.label l) Q e h = Q .normal e h := by unfold Wp; rw [execW_label]; rfl
theorem wq_ret : Wp P cf D .ret Q e h = Q .ret e h := by unfold Wp; rw [execW_ret]; rfl
theorem wq_exit (id : Nat) : Wp P cf D (.exit id) Q e h = Q (.exit id) e h := by unfold Wp; rw [execW_exit]; rfl
theorem wq_scope (b : Code) : Wp P cf D (.scope b) Q e h = Wp P cf D b Q e h := by unfold Wp; rw [execW_scope]
theorem wq_cond (c : Operand) (t f : Code) : Wp P cf D (.cond c t f) Q e h = condQ (Wp P cf D t Q) (Wp P cf D f Q) e h (ev e c) := by
  unfold Wp; rw [execW_cond]
  cases ev e c <;> first | rfl | skip
  rename_i b; cases b <;> rfl
theorem wq_block (id : Nat) (b : Code) : Wp P cf D (.block id b) Q e h = Wp P cf D b (blockQ id Q) e h := by
  unfold Wp; rw [execW_block]
  cases execW P D cf b e h with
  | none => rfl
  | some r =>
    obtain ⟨x, e, h⟩ := r
    cases x with
    | exit id' =>
      simp only [blockK, outQ, blockQ]
      by_cases hh : id' = id
      · subst hh; simp [outQ]
      · have : Nat.beq id' id = false := by cases hb : Nat.beq id' id; · rfl
                                            · exact absurd (Nat.eq_of_beq_eq_true hb) hh
        rw [this, if_neg hh]; rfl
    | _ => rfl
theorem wq_region (id : Nat) (os : Array Oper) : Wp P cf D (.region id os false) Q e h = opsQ P cf os.toList os.toList (Q .normal) e h := by
  unfold Wp opsQ; rw [execW_region]
  cases ops P cf os.toList os.toList e h with
  | none => rfl
  | some r => rfl
theorem wq_draw (id : Nat) (os : Array Oper) : Wp P cf D (.region id os true) Q e h = opsFQ P cf os.toList os.toList (fun e h fs => drawOk (D id) fs = true ∧ Q .normal e h) e h := by
  unfold Wp opsFQ; rw [execW_draw]
  cases opsF P cf os.toList os.toList e h with
  | none => rfl
  | some r =>
    obtain ⟨e', h', fs⟩ := r
    simp only [drawK]
    cases hd : drawOk (D id) fs <;> simp [outQ]
theorem wq_draw0 (id : Nat) (os : Array Oper) (hd : D id = some []) : Wp P cf D (.region id os true) Q e h = opsQ P cf os.toList os.toList (Q .normal) e h := by
  rw [wq_draw, hd]
  have key : ∀ (l : List Oper) (e : Env) (h : Heap), ops P cf os.toList l e h = (opsF P cf os.toList l e h).map fun r => (r.1, r.2.1) := by
    intro l
    induction l with
    | nil => intro e h; rfl
    | cons o l ih =>
      intro e h
      unfold ops op1 opsF opF
      cases wantedA os.toList o e with
      | none => rfl
      | some b =>
        cases b with
        | false =>
          dsimp only
          rw [ih]
          cases opsF P cf os.toList l (e.put o.dst undef) h <;> rfl
        | true =>
          dsimp only
          cases stepOf P o e h with
          | none => rfl
          | some r =>
            cases r with
            | val v rd f => dsimp only [next]; rw [ih]; cases opsF P cf os.toList l (e.put o.dst v) (h.eff f) <;> rfl
            | unit rd f => dsimp only [next]; rw [ih]; cases opsF P cf os.toList l (e.put o.dst undef) (h.eff f) <;> rfl
            | enter g args =>
              dsimp only [next]
              cases cf g args h with
              | none => rfl
              | some r =>
                obtain ⟨v, h', q⟩ := r
                dsimp only
                rw [ih]
                cases opsF P cf os.toList l (e.put o.dst v) h' <;> rfl
  unfold opsFQ opsQ
  rw [key]
  cases opsF P cf os.toList os.toList e h with
  | none => rfl
  | some r => obtain ⟨e', h', fs⟩ := r; simp [drawOk]
theorem thenQ_normal {K : Env → Heap → Prop} : thenQ K Q .normal e h = K e h := rfl
theorem thenQ_exit {K : Env → Heap → Prop} (id : Nat) : thenQ K Q (.exit id) e h = Q (.exit id) e h := rfl
theorem thenQ_ret {K : Env → Heap → Prop} : thenQ K Q .ret e h = Q .ret e h := rfl
theorem blockQ_normal (id : Nat) : blockQ id Q .normal e h = Q .normal e h := rfl
theorem blockQ_ret (id : Nat) : blockQ id Q .ret e h = Q .ret e h := rfl
theorem blockQ_exit (id id' : Nat) : blockQ id Q (.exit id') e h = if id' = id then Q .normal e h else Q (.exit id') e h := rfl
theorem condQ_bool {T F : Env → Heap → Prop} (b : Bool) : condQ T F e h (.bool b) = forkQ (T e h) (F e h) b := rfl
end
section
variable {P : Program} {cf : CallF} {all l : List Oper} {K : Env → Heap → Prop} {KF : Env → Heap → List Foot → Prop} {e : Env} {h : Heap}
theorem opsQ_nil : opsQ P cf all [] K e h = K e h := rfl
theorem opsQ_next {dst : Option Tmp} {k : Env → Heap → Option (Env × Heap)} {r : Option Res} :
    (match next cf dst k e h r with | some (e', h') => K e' h' | none => False) = resQ cf dst (fun e h => match k e h with | some (e', h') => K e' h' | none => False) e h r := by
  cases r with
  | none => rfl
  | some r =>
    cases r with
    | val v rd f => rfl
    | unit rd f => rfl
    | enter f args =>
      simp only [next, resQ]
      cases cf f args h with
      | none => rfl
      | some r => obtain ⟨v, h', q⟩ := r; rfl
theorem opsQ_n (dst : Option Tmp) (op : Op) (ty : TypeId) (pos : String) (af : Array Edge) : opsQ P cf all (⟨dst, op, ty, pos, af, none⟩ :: l) K e h = resQ cf dst (opsQ P cf all l K) e h (stepOf P ⟨dst, op, ty, pos, af, none⟩ e h) := by
  unfold opsQ
  show (match next cf dst (ops P cf all l) e h (stepOf P ⟨dst, op, ty, pos, af, none⟩ e h) with | some (e', h') => K e' h' | none => False) = _
  rw [opsQ_next]
/-- the slot that a guard looks at -/
noncomputable def guardOf (all : List Oper) (j : Nat) (want : Bool) (e : Env) : Option Bool := match (all[j]?).bind (·.dst) with
  | some d => isBool want (e.get d)
  | none => some false
theorem opsQ_g (dst : Option Tmp) (op : Op) (ty : TypeId) (pos : String) (af : Array Edge) (j : Nat) (want : Bool) :
    opsQ P cf all (⟨dst, op, ty, pos, af, some (j, want)⟩ :: l) K e h = guardQ (resQ cf dst (opsQ P cf all l K) e h (stepOf P ⟨dst, op, ty, pos, af, some (j, want)⟩ e h)) (opsQ P cf all l K (e.put dst undef) h) (guardOf all j want e) := by
  have hw : wantedA all ⟨dst, op, ty, pos, af, some (j, want)⟩ e = guardOf all j want e := by
    unfold wantedA guardOf
    dsimp only
    cases (all[j]?).bind (·.dst) <;> rfl
  unfold opsQ
  show (match op1 P cf all ⟨dst, op, ty, pos, af, some (j, want)⟩ (ops P cf all l) e h with | some (e', h') => K e' h' | none => False) = _
  unfold op1
  rw [hw]
  cases guardOf all j want e with
  | none => rfl
  | some b =>
    cases b with
    | false => rfl
    | true =>
      show (match next cf dst (ops P cf all l) e h (stepOf P _ e h) with | some (e', h') => K e' h' | none => False) = _
      rw [opsQ_next]; rfl
theorem resQ_val {dst : Option Tmp} {v : Value} {rd : List Nat} {f : Eff} : resQ cf dst K e h (some (.val v rd f)) = K (e.put dst v) (h.eff f) := rfl
theorem resQ_unit {dst : Option Tmp} {rd : List Nat} {f : Eff} : resQ cf dst K e h (some (.unit rd f)) = K (e.put dst undef) (h.eff f) := rfl
theorem resQ_enter {dst : Option Tmp} {f : FuncId} {args : List Value} : resQ cf dst K e h (some (.enter f args)) = retQ (fun v h' => K (e.put dst v) h') (cf f args h) := rfl
theorem retQ_some {K : Value → Heap → Prop} {v : Value} {h' : Heap} {q : Bool} : retQ K (some (v, h', q)) = K v h' := rfl
theorem guardQ_some {A B : Prop} {b : Bool} : guardQ A B (some b) = forkQ A B b := rfl
theorem opsFQ_nil : opsFQ P cf all [] KF e h = KF e h [] := rfl
theorem opsFQ_cons (o : Oper) : opsFQ P cf all (o :: l) KF e h = (match opF P cf all o e h with | some (e1, h1, f) => opsFQ P cf all l (fun e h fs => KF e h (f :: fs)) e1 h1 | none => False) := by
  unfold opsFQ
  simp only [opsF]
  cases opF P cf all o e h with
  | none => rfl
  | some r =>
    obtain ⟨e1, h1, f⟩ := r
    dsimp only
    cases opsF P cf all l e1 h1 with
    | none => rfl
    | some r => obtain ⟨e2, h2, fs⟩ := r; rfl
theorem opsFQ_res {dst : Option Tmp} {op : Op} {ty : TypeId} {pos : String} {af : Array Edge} {g : Option (Nat × Bool)} (hw : wantedA all ⟨dst, op, ty, pos, af, g⟩ e = some true) :
    opsFQ P cf all (⟨dst, op, ty, pos, af, g⟩ :: l) KF e h = resFQ cf dst (fun e h f => opsFQ P cf all l (fun e h fs => KF e h (f :: fs)) e h) e h (stepOf P ⟨dst, op, ty, pos, af, g⟩ e h) := by
  rw [opsFQ_cons]
  unfold opF
  rw [hw]
  dsimp only
  cases stepOf P ⟨dst, op, ty, pos, af, g⟩ e h with
  | none => rfl
  | some r =>
    cases r with
    | val v rd f => rfl
    | unit rd f => rfl
    | enter f args =>
      dsimp only [resFQ]
      cases cf f args h with
      | none => rfl
      | some r => obtain ⟨v, h', q⟩ := r; rfl
theorem opsFQ_n (dst : Option Tmp) (op : Op) (ty : TypeId) (pos : String) (af : Array Edge) : opsFQ P cf all (⟨dst, op, ty, pos, af, none⟩ :: l) KF e h = resFQ cf dst (fun e h f => opsFQ P cf all l (fun e h fs => KF e h (f :: fs)) e h) e h (stepOf P ⟨dst, op, ty, pos, af, none⟩ e h) :=
  opsFQ_res rfl
theorem opsFQ_g (dst : Option Tmp) (op : Op) (ty : TypeId) (pos : String) (af : Array Edge) (j : Nat) (want : Bool) :
    opsFQ P cf all (⟨dst, op, ty, pos, af, some (j, want)⟩ :: l) KF e h = guardQ (resFQ cf dst (fun e h f => opsFQ P cf all l (fun e h fs => KF e h (f :: fs)) e h) e h (stepOf P ⟨dst, op, ty, pos, af, some (j, want)⟩ e h)) (opsFQ P cf all l (fun e' h' fs => KF e' h' (foot0 h :: fs)) (e.put dst undef) h) (guardOf all j want e) := by
  have hw : wantedA all ⟨dst, op, ty, pos, af, some (j, want)⟩ e = guardOf all j want e := by
    unfold wantedA guardOf
    dsimp only
    cases (all[j]?).bind (·.dst) <;> rfl
  cases hg : guardOf all j want e with
  | none => rw [opsFQ_cons]; unfold opF; rw [hw, hg]; rfl
  | some b =>
    cases b with
    | true => rw [opsFQ_res (hw.trans hg)]; rfl
    | false =>
      rw [opsFQ_cons]; unfold opF; rw [hw, hg]
      simp only [guardQ, forkQ, Bool.false_eq_true, if_false]
theorem resFQ_val {dst : Option Tmp} {K : Env → Heap → Foot → Prop} {v : Value} {rd : List Nat} {f : Eff} : resFQ cf dst K e h (some (.val v rd f)) = K (e.put dst v) (h.eff f) (Foot.mk1 h rd f) := rfl
theorem resFQ_unit {dst : Option Tmp} {K : Env → Heap → Foot → Prop} {rd : List Nat} {f : Eff} : resFQ cf dst K e h (some (.unit rd f)) = K (e.put dst undef) (h.eff f) (Foot.mk1 h rd f) := rfl
theorem resFQ_enter {dst : Option Tmp} {K : Env → Heap → Foot → Prop} {f : FuncId} {args : List Value} : resFQ cf dst K e h (some (.enter f args)) = retFQ h (fun v h' f => K (e.put dst v) h' f) (cf f args h) := rfl
theorem retFQ_some {K : Value → Heap → Foot → Prop} {v : Value} {h' : Heap} {q : Bool} : retFQ h K (some (v, h', q)) = K v h' ⟨true, !q, h.next, h'.next, [], []⟩ := rfl
end
end Go.Am
