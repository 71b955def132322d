/- Operations in the order of the text, in both machines. -/
import Derived.Test.YtlblocieleildaaAm13
set_option linter.unusedVariables false
set_option linter.unusedSimpArgs false
namespace Go.Am
open Go.RowKit

def okSlot (ns : Nat) : Operand → Bool
  | .tmp t => Nat.blt t ns
  | _ => true
def okDst (ns : Nat) : Option Tmp → Bool
  | some d => Nat.blt d ns
  | none => true
def okGuard (ns : Nat) (all : List Oper) : Option (Nat × Bool) → Bool
  | none => true
  | some (j, _) => okDst ns ((all[j]?).bind (·.dst))
def okOper (ns : Nat) (all : List Oper) (o : Oper) : Bool := okDst ns o.dst && o.op.operands.toList.all (okSlot ns) && okGuard ns all o.guard
def ERel (m : Mp) (e : Env) (a : Act) : Prop := ∀ t, t < a.tmps.size → VRel m (e.get t) (a.tmps.getD t undef)
def ESc (n : Nat) (e : Env) : Prop := ∀ t, Sc (· < n) (e.get t)
structure St (B : Nat) (w0 : World) (m : Mp) (e : Env) (h : Heap) (a : Act) (w : World) : Prop where
  heap : HRel B w0 m h.get w
  env : ERel m e a
  wf : HWf h
  sc : ESc h.next e
structure Evo (m m' : Mp) (h h' : Heap) (w w' : World) : Prop where
  c : CEvo (· < h.next) m m' h.get h'.get w w'
  a : AEvo h h'
theorem Evo.refl {m : Mp} {h : Heap} {w : World} (hw : HWf h) : Evo m m h h w w := ⟨CEvo.refl hw.lt, AEvo.refl hw⟩
theorem Evo.trans {m m1 m2 : Mp} {h h1 h2 : Heap} {w w1 w2 : World} (a : Evo m m1 h h1 w w1) (b : Evo m1 m2 h1 h2 w1 w2) : Evo m m2 h h2 w w2 := ⟨a.c.trans b.c fun x hx => Nat.lt_of_lt_of_le hx a.a.next, a.a.trans b.a⟩
/-- what is asked of calls: of the abstract heap alone -/
def CfWf (cf : CallF) : Prop :=
  ∀ f args h v h' q, cf f args h = some (v, h', q) → HWf h → (∀ v ∈ args, Sc (· < h.next) v) → HWf h' ∧ Sc (· < h'.next) v ∧ AEvo h h' ∧ (q = true → ∀ b, b < h.next → h'.get b = h.get b)
/-- what is asked of calls: of both machines -/
def CfOk (P : Program) (cf : CallF) (B : Nat) (w0 : World) : Prop :=
  ∀ f args h v h' q, cf f args h = some (v, h', q) → ∀ m w args', HWf h → (∀ v ∈ args, Sc (· < h.next) v) → HRel B w0 m h.get w → LRel m args args' →
    Calls P f args'.toArray w fun en w' => ∃ v' m', en = .returned v' ∧ VRel m' v v' ∧ HRel B w0 m' h'.get w' ∧ CEvo (· < h.next) m m' h.get h'.get w w'

theorem lt_of_blt {a b : Nat} (h : Nat.blt a b = true) : a < b := Nat.le_of_ble_eq_true h
theorem ev_rel {m : Mp} {e : Env} {a : Act} {ns : Nat} {x : Operand} (he : ERel m e a) (hx : okSlot ns x = true) (hn : ns ≤ a.tmps.size) : VRel m (ev e x) (a.eval x) := by
  cases x with
  | tmp t => exact he t (Nat.lt_of_lt_of_le (lt_of_blt hx) hn)
  | const v =>
    show VRel m (bif flat v then v else unk) v
    cases hf : flat v
    · exact .any v
    · exact .flat hf
  | global g => exact .any _
  | func f => exact .func _ _ _ _ _ rfl (fun i v v' h => by simp at h) rfl (fun i v v' h => by simp at h)
theorem ev_sc {n : Nat} {e : Env} (he : ESc n e) (x : Operand) : Sc (· < n) (ev e x) := by
  cases x with
  | tmp t => exact he t
  | const v =>
    show Sc (· < n) (bif flat v then v else unk)
    cases hf : flat v
    · exact .unk
    · exact .of_flat hf
  | global g => exact .unk
  | func f => exact .func _ _ _ (fun i v h => by simp at h) (fun i v h => by simp at h)
theorem ERel.put {m : Mp} {e : Env} {a : Act} (he : ERel m e a) {v v' : Value} (hv : VRel m v v') (d : Option Tmp) : ERel m (e.put d v) (a.put d v') := by
  cases d with
  | none => exact he
  | some d =>
    intro t ht
    simp only [Act.put, Array.size_setIfInBounds] at ht
    simp only [Env.put_some, Env.get_set, Act.put]
    by_cases hd : d = t
    · subst hd
      simp [ht, hv]
    · rw [if_neg hd]
      have := he t ht
      simpa [Array.getD_eq_getD_getElem?, Array.getElem?_setIfInBounds_ne hd] using this
theorem ESc.put {n : Nat} {e : Env} (he : ESc n e) {v : Value} (hv : Sc (· < n) v) (d : Option Tmp) : ESc n (e.put d v) := by
  cases d with
  | none => exact he
  | some d =>
    intro t
    simp only [Env.put_some, Env.get_set]
    split
    · exact hv
    · exact he t
theorem ERel.moved {m m' : Mp} {n : Nat} {e : Env} {a : Act} (he : ERel m e a) (hs : ESc n e) (hm : ∀ b, b < n → m' b = m b) : ERel m' e a := fun t ht => (he t ht).moved hm (hs t)
theorem put_size (a : Act) (d : Option Tmp) (v : Value) : (a.put d v).tmps.size = a.tmps.size := by cases d <;> simp [Act.put]
theorem put_defers (a : Act) (d : Option Tmp) (v : Value) : (a.put d v).defers = a.defers := by cases d <;> rfl
theorem wanted_rel {m : Mp} {e : Env} {a : Act} {ns : Nat} {os : Array Oper} {o : Oper} {b : Bool} (he : ∀ j want d, o.guard = some (j, want) → (os[j]?).bind (·.dst) = some d → VRel m (e.get d) (a.tmps.getD d undef)) (hn : ns ≤ a.tmps.size) (hg : okGuard ns os.toList o.guard = true) (hw : wantedA os.toList o e = some b) :
    Region.wanted o (yielded os a.tmps) = b := by
  unfold wantedA at hw
  unfold Region.wanted
  cases hgd : o.guard with
  | none => rw [hgd] at hw; cases hw; rfl
  | some jw =>
    obtain ⟨j, want⟩ := jw
    rw [hgd] at hw hg
    dsimp only at hw ⊢
    simp only [okGuard, Array.getElem?_toList] at hw hg
    unfold yielded
    cases hd : (os[j]?).bind (·.dst) with
    | none => rw [hd] at hw; cases hw; rfl
    | some d =>
      rw [hd] at hw hg
      dsimp only at hw ⊢
      have hlt : d < a.tmps.size := Nat.lt_of_lt_of_le (lt_of_blt hg) hn
      have hr := he j want d hgd hd
      have ht : a.tmps[d]? = some (a.tmps.getD d undef) := by simp [hlt]
      simp only [Option.bind_some, ht]
      revert hr hw
      generalize e.get d = u
      generalize a.tmps.getD d undef = u'
      intro hw hr
      cases hr with
      | any _ => cases hw
      | same _ hf =>
        cases u <;> first
          | (cases hw; rfl)
          | (cases hw; done)
          | (rename_i bb; cases hw; cases bb <;> cases want <;> rfl)
      | ptr _ _ => cases hw; rfl
      | sl _ _ _ _ _ _ => cases hw; rfl
      | agg _ _ _ _ => cases hw; rfl
      | tuple _ _ _ _ => cases hw; rfl
      | iface _ _ _ _ => cases hw; rfl
      | func _ _ _ _ _ _ _ _ _ => cases hw; rfl
section
variable {P : Program} {cf : CallF} {B : Nat} {w0 : World} {ns : Nat} {os : Array Oper} {Q : Exit → Act → World → Prop}
theorem okOper_parts {o : Oper} {all : List Oper} (h : okOper ns all o = true) : okDst ns o.dst = true ∧ (∀ x ∈ o.op.operands, okSlot ns x = true) ∧ okGuard ns all o.guard = true := by
  unfold okOper at h
  simp only [Bool.and_eq_true] at h
  exact ⟨h.1.1, fun x hx => List.all_eq_true.1 h.1.2 x (by simpa using hx), h.2⟩
theorem St.pre {m : Mp} {e : Env} {h : Heap} {a : Act} {w : World} {o : Oper} (hs : St B w0 m e h a w) (hn : ns ≤ a.tmps.size) (ho : ∀ x ∈ o.op.operands, okSlot ns x = true) : Pre P o e a B m h w (· < h.next) :=
  ⟨fun x hx => ev_rel hs.env (ho x hx) hn, fun x _ => ev_sc hs.sc x, fun b x hb => (hs.wf.ok b x hb).plain, hs.heap.base⟩
theorem more_lt {h : Heap} {f : Eff} (b : Nat) (hb : more (· < h.next) h f b) : b < (h.eff f).next := by
  rcases hb with hb | ⟨hb, rfl⟩
  · exact Nat.lt_of_lt_of_le hb (h.next_eff f)
  · cases f with
    | non => cases hb
    | set _ _ => cases hb
    | new x => exact Nat.lt_succ_self _
    | mv k x => exact Nat.lt_succ_self _
theorem live_of_ok {h : Heap} {p : Nat → Prop} {f : Eff} (hf : EffOk h p f) : Live h.get f := by
  cases f with
  | non => trivial
  | new x => trivial
  | set c x => exact hf.1
  | mv c x => exact hf.1
/-- one operation -/
theorem op_sim (hcw : CfWf cf) (hcf : CfOk P cf B w0) {o : Oper} {e : Env} {h : Heap} {m : Mp} {a : Act} {w : World} (hs : St B w0 m e h a w) (hn : ns ≤ a.tmps.size) (ho : okOper ns os.toList o = true)
    {k : Env → Heap → Option (Env × Heap)} {r : Env × Heap} (hr : op1 P cf os.toList o k e h = some r) {K : Act → World → Prop}
    (hK : ∀ v e1 h1 m1 a1 w1, e1 = e.put o.dst v → St B w0 m1 e1 h1 a1 w1 → Evo m m1 h h1 w w1 → a1.defers = a.defers → a1.tmps.size = a.tmps.size → k e1 h1 = some r → K a1 w1) :
    if Region.wanted o (yielded os a.tmps) then o.wp P a w K Q else K (a.put o.dst undef) w := by
  obtain ⟨o1, o2, o3⟩ := okOper_parts ho
  unfold op1 at hr
  cases hw : wantedA os.toList o e with
  | none => rw [hw] at hr; cases hr
  | some b =>
    rw [hw] at hr
    have hwant := wanted_rel (fun j want d hg hd => hs.env d (Nat.lt_of_lt_of_le (by have o3' := o3; rw [hg] at o3'; simp only [okGuard, Array.getElem?_toList] at o3'; rw [hd] at o3'; exact lt_of_blt o3') hn)) hn o3 hw
    rw [hwant]
    cases b with
    | false =>
      simp only [Bool.false_eq_true, if_false]
      refine hK undef _ h m _ w rfl ⟨hs.heap, hs.env.put ?_ _, hs.wf, hs.sc.put .undef _⟩ (Evo.refl hs.wf) (put_defers _ _ _) (put_size _ _ _) hr
      exact .tuple _ _ rfl fun i v v' h => by simp at h
    | true =>
      simp only [if_true]
      dsimp only at hr
      cases hst : stepOf P o e h with
      | none => rw [hst] at hr; cases hr
      | some res =>
        rw [hst] at hr
        have hpre := hs.pre (P := P) (o := o) hn o2
        have hreads : Reads B m h w (· < h.next) res.rd := fun b _ x hx => ⟨hs.heap.blk b x hx, (hs.wf.ok b x hx).sc⟩
        have hsim := sim hpre hst hreads fun _ => Nat.lt_irrefl _
        have hok := step_ok hs.wf (fun x _ => ev_sc hs.sc x) hst fun b _ x hx => (hs.wf.ok b x hx).sc
        unfold Oper.wp
        cases res with
        | val v rd f =>
          obtain ⟨m', v', w', h1, h2, h3⟩ := hsim
          obtain ⟨k1, k2⟩ := hs.heap.eff (p := (· < h.next)) (fun b x hb => ⟨hs.wf.lt b x hb, (hs.wf.ok b x hb).sc⟩) (fun _ => Nat.lt_irrefl _) (live_of_ok hok.1) h3
          rw [← effG_heap] at k1 k2
          have k2 : Evo _ _ _ _ _ _ := ⟨k2, AEvo.eff hs.wf hok.1 (step_ro hst)⟩
          rw [h1, Oper.upon_value]
          have hr : k (e.put o.dst v) (h.eff f) = some r := hr
          exact hK v _ _ m' _ w' rfl ⟨k1, (hs.env.moved hs.sc fun b hb => h3.keep b (Nat.ne_of_lt hb)).put h2 _, hs.wf.eff hok.1, ESc.put (fun t => (hs.sc t).mono fun b hb => Nat.lt_of_lt_of_le hb (h.next_eff f)) (hok.2.1.mono more_lt) _⟩ k2 (put_defers _ _ _) (put_size _ _ _) hr
        | unit rd f =>
          obtain ⟨m', w', h1, h3⟩ := hsim
          obtain ⟨k1, k2⟩ := hs.heap.eff (p := (· < h.next)) (fun b x hb => ⟨hs.wf.lt b x hb, (hs.wf.ok b x hb).sc⟩) (fun _ => Nat.lt_irrefl _) (live_of_ok hok.1) h3
          rw [← effG_heap] at k1 k2
          have k2 : Evo _ _ _ _ _ _ := ⟨k2, AEvo.eff hs.wf hok.1 (step_ro hst)⟩
          rw [h1, Oper.upon_skip]
          have hr : k (e.put o.dst undef) (h.eff f) = some r := hr
          exact hK undef _ _ m' _ w' rfl ⟨k1, (hs.env.moved hs.sc fun b hb => h3.keep b (Nat.ne_of_lt hb)).put (.tuple _ _ rfl fun i v v' h => by simp at h) _, hs.wf.eff hok.1, ESc.put (fun t => (hs.sc t).mono fun b hb => Nat.lt_of_lt_of_le hb (h.next_eff f)) .undef _⟩ k2 (put_defers _ _ _) (put_size _ _ _) hr
        | enter g args =>
          obtain ⟨args', h1, h2⟩ := hsim
          rw [h1, Oper.upon_enter]
          have hr : (match cf g args h with | some (v, h', _) => k (e.put o.dst v) h' | none => none) = some r := hr
          cases hc : cf g args h with
          | none => rw [hc] at hr; cases hr
          | some vhq =>
            obtain ⟨v, h', q⟩ := vhq
            rw [hc] at hr
            obtain ⟨k3, k4, k5, _⟩ := hcw g args h v h' q hc hs.wf hok
            refine (hcf g args h v h' q hc m w args' hs.wf hok hs.heap h2).mono ?_
            rintro en w' ⟨v', m', rfl, k1, k2, k6⟩
            exact hK v _ _ m' _ w' rfl ⟨k2, (hs.env.moved hs.sc k6.keep).put k1 _, k3, ESc.put (fun t => (hs.sc t).mono fun b hb => Nat.lt_of_lt_of_le hb k5.next) k4 _⟩ ⟨k6, k5⟩ (put_defers _ _ _) (put_size _ _ _) hr
theorem ops_sim (hcw : CfWf cf) (hcf : CfOk P cf B w0) : ∀ (rest : List Oper) (e : Env) (h : Heap) (e' : Env) (h' : Heap), ops P cf os.toList rest e h = some (e', h') → rest.all (okOper ns os.toList) = true →
    ∀ (m : Mp) (a : Act) (w : World), St B w0 m e h a w → ns ≤ a.tmps.size →
    (∀ m' a' w', St B w0 m' e' h' a' w' → Evo m m' h h' w w' → a'.defers = a.defers → a'.tmps.size = a.tmps.size → Q .normal a' w') → wpList P os Q rest a w
  | [], e, h, e', h', hr, _, m, a, w, hs, hn, hQ => by
    cases hr
    exact wpList_nil (hQ m a w hs (Evo.refl hs.wf) rfl rfl)
  | o :: rest, e, h, e', h', hr, hok, m, a, w, hs, hn, hQ => by
    simp only [List.all_cons, Bool.and_eq_true] at hok
    refine wpList_step fun K hK => ?_
    refine op_sim hcw hcf hs hn hok.1 (k := ops P cf os.toList rest) hr fun v e1 h1 m1 a1 w1 _ hs1 ev1 hd1 hz1 hr1 => hK _ _ ?_
    exact ops_sim hcw hcf rest e1 h1 e' h' hr1 hok.2 m1 a1 w1 hs1 (by rw [hz1]; exact hn) fun m' a' w' hs' ev' hd' hz' => hQ m' a' w' hs' (ev1.trans ev') (hd'.trans hd1) (hz'.trans hz1)
end
end Go.Am
