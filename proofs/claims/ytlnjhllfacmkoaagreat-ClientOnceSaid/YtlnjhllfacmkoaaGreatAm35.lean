/- The abstract machine run along a script: the answers of some operations and calls are read off a list, and what is to be shown of them is written down. -/
import Derived.Test.YtlnjhllfacmkoaaGreatAm34
set_option linter.unusedVariables false
set_option linter.unusedSimpArgs false
namespace Go.Am
noncomputable section
/-- what is to be shown of an answer that was read off the script -/
inductive Ob where
  | bin (op : BinOp) (t : TypeId) (a b v : Value)
  | un (op : UnOp) (a v : Value)
  | conv (s d : TypeId) (a v : Value)
  | mx (b : Bool) (args : List Value) (ts : List TypeId) (ty : TypeId) (v : Value)
  | call (f : FuncId) (args : List Value) (v : Value)
def footC (h : Heap) : Foot := ⟨true, false, h.next, h.next, [], []⟩
def obOf (P : Program) (o : Oper) (e : Env) (h : Heap) (v : Value) : Option (Ob × Foot) :=
  match o.op with
  | .binOp op t x y _ => some (.bin op t (ev e x) (ev e y) v, Foot.mk1 h [] .non)
  | .unOp op _ x => some (.un op (ev e x) v, Foot.mk1 h [] .non)
  | .convert s d x => some (.conv s d (ev e x) v, Foot.mk1 h [] .non)
  | .call ⟨.builtin .max, args, ts⟩ => some (.mx true (args.toList.map (ev e)) ts.toList o.type v, Foot.mk1 h [] .non)
  | .call ⟨.builtin .min, args, ts⟩ => some (.mx false (args.toList.map (ev e)) ts.toList o.type v, Foot.mk1 h [] .non)
  | .call c => match callOp P o c e h with
    | some (.enter f args) => some (.call f args v, footC h)
    | _ => none
  | _ => none
def Ob.holds (P : Program) (cf : CallF) : Ob → Prop
  | .bin op t a b v => ∀ dst x y t' ty pos af g e h, ev e x = a → ev e y = b → stepOf P ⟨dst, .binOp op t x y t', ty, pos, af, g⟩ e h = some (.val v [] .non)
  | .un op a v => ∀ dst t x ty pos af g e h, ev e x = a → stepOf P ⟨dst, .unOp op t x, ty, pos, af, g⟩ e h = some (.val v [] .non)
  | .conv s d a v => ∀ dst x ty pos af g e h, ev e x = a → stepOf P ⟨dst, .convert s d x, ty, pos, af, g⟩ e h = some (.val v [] .non)
  | .mx b vs ts ty v => ∀ dst args tys pos af g e h, args.toList.map (ev e) = vs → tys.toList = ts → stepOf P ⟨dst, .call ⟨.builtin (bif b then .max else .min), args, tys⟩, ty, pos, af, g⟩ e h = some (.val v [] .non)
  | .call f args v => ∀ h, cf f args h = some (v, h, true)
abbrev CallX := FuncId → List Value → Heap → List Value → Option (Value × Heap × Bool × List Value × List Ob)
def scripted (l : List Nat) : Option Tmp → Bool
  | some t => l.any (Nat.beq t)
  | none => false
def opX (P : Program) (sc : List Nat) (cf : CallX) (all : List Oper) (o : Oper) (e : Env) (h : Heap) (s : List Value) : Option (Env × Heap × Foot × List Value × List Ob) :=
  match wantedA all o e with
  | some true =>
    bif scripted sc o.dst then
      match s with
      | [] => none
      | v :: s' => match obOf P o e h v with
        | some (ob, ft) => some (e.put o.dst v, h, ft, s', [ob])
        | none => none
    else match stepOf P o e h with
      | some (.val v rd f) => some (e.put o.dst v, h.eff f, Foot.mk1 h rd f, s, [])
      | some (.unit rd f) => some (e.put o.dst undef, h.eff f, Foot.mk1 h rd f, s, [])
      | some (.enter f args) => match cf f args h s with
        | some (v, h', q, s', obs) => some (e.put o.dst v, h', ⟨true, !q, h.next, h'.next, [], []⟩, s', obs)
        | none => none
      | none => none
  | some false => some (e.put o.dst undef, h, foot0 h, s, [])
  | none => none
def opsX (P : Program) (sc : List Nat) (cf : CallX) (all : List Oper) : List Oper → Env → Heap → List Value → Option (Env × Heap × List Foot × List Value × List Ob)
  | [], e, h, s => some (e, h, [], s, [])
  | o :: rest, e, h, s => match opX P sc cf all o e h s with
    | some (e, h, f, s, o1) => match opsX P sc cf all rest e h s with
      | some (e, h, fs, s, o2) => some (e, h, f :: fs, s, o1 ++ o2)
      | none => none
    | none => none
abbrev OutX := Option (AExit × Env × Heap × List Value × List Ob)
def seqX (k : Env → Heap → List Value → OutX) : OutX → OutX
  | some (.normal, e, h, s, o1) => match k e h s with
    | some (x, e, h, s, o2) => some (x, e, h, s, o1 ++ o2)
    | none => none
  | r => r
def condX (t f : Env → Heap → List Value → OutX) (e : Env) (h : Heap) (s : List Value) : Value → OutX
  | .bool b => (bif b then t else f) e h s
  | _ => none
def blockX (id : Nat) : OutX → OutX
  | some (.exit id', e, h, s, o) => bif Nat.beq id' id then some (.normal, e, h, s, o) else some (.exit id', e, h, s, o)
  | r => r
def regX : Option (Env × Heap × List Foot × List Value × List Ob) → OutX
  | some (e, h, _, s, o) => some (.normal, e, h, s, o)
  | none => none
def drawX (d : Option (List (Nat × Nat))) : Option (Env × Heap × List Foot × List Value × List Ob) → OutX
  | some (e, h, fs, s, o) => bif drawOk d fs then some (.normal, e, h, s, o) else none
  | none => none
def execX (P : Program) (D : Draws) (sc : List Nat) (cf : CallX) : Nat → Code → Env → Heap → List Value → OutX
  | 0, _ => fun _ _ _ => none
  | n + 1, c => match c with
    | .skip | .label _ => fun e h s => some (.normal, e, h, s, [])
    | .ret => fun e h s => some (.ret, e, h, s, [])
    | .exit id => fun e h s => some (.exit id, e, h, s, [])
    | .seq a b => fun e h s => seqX (execX P D sc cf n b) (execX P D sc cf n a e h s)
    | .cond c t f => fun e h s => condX (execX P D sc cf n t) (execX P D sc cf n f) e h s (ev e c)
    | .block id b => fun e h s => blockX id (execX P D sc cf n b e h s)
    | .loop b => fun e h s => seqX (execX P D sc cf n (.loop b)) (execX P D sc cf n b e h s)
    | .scope b => execX P D sc cf n b
    | .region _ os false => fun e h s => regX (opsX P sc cf os.toList os.toList e h s)
    | .region id os true => fun e h s => drawX (D id) (opsX P sc cf os.toList os.toList e h s)
    | _ => fun _ _ _ => none
def doneX (P : Program) (fn : Func) (h : Heap) : OutX → Option (Value × Heap × Bool × List Value × List Ob)
  | some (.normal, e', h', s, o) | some (.ret, e', h', s, o) => match resultsA P e' h' fn.results.toList with
    | some vs => match leave h h' vs with
      | (v, h'', q) => some (v, h'', q, s, o)
    | none => none
  | _ => none
def callX (P : Program) (H : FuncId → Draws) (S : FuncId → List Nat) : Nat → CallX
  | 0 => fun _ _ _ _ => none
  | n + 1 => fun f args h s => match P.funcs[f]? with
    | none => none
    | some fn => match fn.body with
      | none => none
      | some c => doneX P fn h (execX P (H f) (S f) (callX P H S n) n c (Env.ofList args 0) (h.low h.next) s)

section
variable {P : Program} {H : FuncId → Draws} {D : Draws} {sc : List Nat} {cw : CallF}
def CxOk (P : Program) (cw : CallF) (cf : CallX) : Prop := ∀ f args h s v h' q s' obs, cf f args h s = some (v, h', q, s', obs) → (∀ ob ∈ obs, ob.holds P cw) → cw f args h = some (v, h', q)
theorem obOf_ok {o : Oper} {e : Env} {h : Heap} {v : Value} {ob : Ob} {ft : Foot} (ho : obOf P o e h v = some (ob, ft)) (hh : ob.holds P cw) :
    (stepOf P o e h = some (.val v [] .non) ∧ ft = Foot.mk1 h [] .non) ∨ ∃ f args, stepOf P o e h = some (.enter f args) ∧ cw f args h = some (v, h, true) ∧ ft = footC h := by
  obtain ⟨dst, op, ty, pos, af, g⟩ := o
  unfold obOf at ho
  dsimp only at ho
  split at ho
  · cases ho; exact .inl ⟨hh _ _ _ _ _ _ _ _ _ _ rfl rfl, rfl⟩
  · cases ho; exact .inl ⟨hh _ _ _ _ _ _ _ _ _ rfl, rfl⟩
  · cases ho; exact .inl ⟨hh _ _ _ _ _ _ _ _ rfl, rfl⟩
  · cases ho; exact .inl ⟨hh _ _ _ _ _ _ _ _ rfl rfl, rfl⟩
  · cases ho; exact .inl ⟨hh _ _ _ _ _ _ _ _ rfl rfl, rfl⟩
  · rename_i c _ _
    cases hc : callOp P ⟨dst, .call c, ty, pos, af, g⟩ c e h with
    | none => rw [hc] at ho; cases ho
    | some r =>
      rw [hc] at ho
      cases r with
      | val _ _ _ => cases ho
      | unit _ _ => cases ho
      | enter f args => cases ho; exact .inr ⟨f, args, hc, hh h, rfl⟩
  · cases ho
theorem opX_ok {cf : CallX} (hcf : CxOk P cw cf) {all : List Oper} {o : Oper} {e e' : Env} {h h' : Heap} {s s' : List Value} {ft : Foot} {obs : List Ob} (hr : opX P sc cf all o e h s = some (e', h', ft, s', obs)) (hh : ∀ ob ∈ obs, ob.holds P cw) :
    opF P cw all o e h = some (e', h', ft) := by
  unfold opX at hr
  unfold opF
  split at hr
  · rename_i hw
    rw [hw]
    dsimp only
    cases hsc : scripted sc o.dst
    · rw [hsc] at hr
      simp only [cond_false] at hr
      split at hr
      · rename_i v rd f hs; cases hr; rw [hs]
      · rename_i rd f hs; cases hr; rw [hs]
      · rename_i f args hs
        cases hc : cf f args h s with
        | none => rw [hc] at hr; cases hr
        | some r =>
          obtain ⟨v, h1, q, s1, o1⟩ := r
          rw [hc] at hr
          cases hr
          rw [hs]
          dsimp only
          rw [hcf _ _ _ _ _ _ _ _ _ hc hh]
      · cases hr
    · rw [hsc] at hr
      simp only [cond_true] at hr
      split at hr
      · cases hr
      · rename_i v s1
        cases ho : obOf P o e h v with
        | none => rw [ho] at hr; cases hr
        | some r =>
          obtain ⟨ob, ft1⟩ := r
          rw [ho] at hr
          cases hr
          rcases obOf_ok ho (hh _ (by simp)) with ⟨k1, rfl⟩ | ⟨f, args, k1, k2, rfl⟩
          · rw [k1]; rfl
          · rw [k1]
            dsimp only
            rw [k2]
            rfl
  · rename_i hw; cases hr; rw [hw]
  · cases hr
theorem opsX_ok {cf : CallX} (hcf : CxOk P cw cf) {all : List Oper} : ∀ (l : List Oper) {e e' : Env} {h h' : Heap} {s s' : List Value} {fs : List Foot} {obs : List Ob}, opsX P sc cf all l e h s = some (e', h', fs, s', obs) → (∀ ob ∈ obs, ob.holds P cw) → opsF P cw all l e h = some (e', h', fs)
  | [], e, e', h, h', s, s', fs, obs, hr, _ => by cases hr; rfl
  | o :: l, e, e', h, h', s, s', fs, obs, hr, hh => by
    unfold opsX at hr
    cases h1 : opX P sc cf all o e h s with
    | none => rw [h1] at hr; cases hr
    | some r1 =>
      obtain ⟨e1, hh1, f1, s1, o1⟩ := r1
      rw [h1] at hr
      dsimp only at hr
      cases h2 : opsX P sc cf all l e1 hh1 s1 with
      | none => rw [h2] at hr; cases hr
      | some r2 =>
        obtain ⟨e2, hh2, fs2, s2, o2⟩ := r2
        rw [h2] at hr
        cases hr
        unfold opsF
        rw [opX_ok hcf h1 fun ob hb => hh ob (List.mem_append_left _ hb)]
        dsimp only
        rw [opsX_ok hcf l h2 fun ob hb => hh ob (List.mem_append_right _ hb)]
theorem ops_of_opsF {cf : CallF} {all : List Oper} : ∀ (l : List Oper) {e e' : Env} {h h' : Heap} {fs : List Foot}, opsF P cf all l e h = some (e', h', fs) → ops P cf all l e h = some (e', h')
  | [], e, e', h, h', fs, hr => by cases hr; rfl
  | o :: l, e, e', h, h', fs, hr => by
    unfold opsF at hr
    cases h1 : opF P cf all o e h with
    | none => rw [h1] at hr; cases hr
    | some r1 =>
      obtain ⟨e1, hh1, f1⟩ := r1
      rw [h1] at hr
      dsimp only at hr
      cases h2 : opsF P cf all l e1 hh1 with
      | none => rw [h2] at hr; cases hr
      | some r2 =>
        obtain ⟨e2, hh2, fs2⟩ := r2
        rw [h2] at hr
        cases hr
        have ih := ops_of_opsF l h2
        unfold ops op1
        unfold opF at h1
        split at h1
        · unfold next
          split at h1
          · rename_i v rd f hs; cases h1; exact ih
          · rename_i rd f hs; cases h1; exact ih
          · rename_i f args hs
            cases hc : cf f args h with
            | none => rw [hc] at h1; cases h1
            | some vhq =>
              obtain ⟨v, h', q⟩ := vhq
              rw [hc] at h1
              cases h1
              exact ih
          · cases h1
        · cases h1; exact ih
        · cases h1
theorem execX_ok {cf : CallX} (hcf : CxOk P cw cf) : ∀ (n : Nat) (c : Code) {e e' : Env} {h h' : Heap} {s s' : List Value} {x : AExit} {obs : List Ob}, execX P D sc cf n c e h s = some (x, e', h', s', obs) → (∀ ob ∈ obs, ob.holds P cw) → exec P D cw n c e h = some (x, e', h') := by
  intro n
  induction n with
  | zero => intro c e e' h h' s s' x obs hr; cases hr
  | succ n ih =>
    intro c e e' h h' s s' x obs hr hh
    have seq : ∀ (a b : Code), seqX (execX P D sc cf n b) (execX P D sc cf n a e h s) = some (x, e', h', s', obs) → seqK (exec P D cw n b) (exec P D cw n a e h) = some (x, e', h') := by
      intro a b hr
      cases h1 : execX P D sc cf n a e h s with
      | none => rw [h1] at hr; cases hr
      | some r1 =>
        obtain ⟨x1, e1, hh1, s1, o1⟩ := r1
        rw [h1] at hr
        cases x1 with
        | normal =>
          have hr : (match execX P D sc cf n b e1 hh1 s1 with | some (x, e, h, s, o2) => some (x, e, h, s, o1 ++ o2) | none => none) = some (x, e', h', s', obs) := hr
          cases h2 : execX P D sc cf n b e1 hh1 s1 with
          | none => rw [h2] at hr; cases hr
          | some r2 =>
            obtain ⟨x2, e2, hh2, s2, o2⟩ := r2
            rw [h2] at hr
            cases hr
            rw [ih a h1 fun ob hb => hh ob (List.mem_append_left _ hb)]
            exact ih b h2 fun ob hb => hh ob (List.mem_append_right _ hb)
        | exit id => cases hr; rw [ih a h1 hh]; rfl
        | ret => cases hr; rw [ih a h1 hh]; rfl
    cases c with
    | skip => cases hr; rfl
    | label l => cases hr; rfl
    | ret => cases hr; rfl
    | exit id => cases hr; rfl
    | seq a b => exact seq a b hr
    | loop b => exact seq b (.loop b) hr
    | cond c t f =>
      have hr : condX (execX P D sc cf n t) (execX P D sc cf n f) e h s (ev e c) = some (x, e', h', s', obs) := hr
      show condK (exec P D cw n t) (exec P D cw n f) e h (ev e c) = some (x, e', h')
      cases hv : ev e c with
      | bool b =>
        rw [hv] at hr
        cases b
        · exact ih f hr hh
        · exact ih t hr hh
      | _ => rw [hv] at hr; cases hr
    | block id b =>
      have hr : blockX id (execX P D sc cf n b e h s) = some (x, e', h', s', obs) := hr
      show blockK id (exec P D cw n b e h) = some (x, e', h')
      cases h1 : execX P D sc cf n b e h s with
      | none => rw [h1] at hr; cases hr
      | some r1 =>
        obtain ⟨x1, e1, hh1, s1, o1⟩ := r1
        rw [h1] at hr
        cases x1 with
        | exit id' =>
          have hr : (bif Nat.beq id' id then some (.normal, e1, hh1, s1, o1) else some (.exit id', e1, hh1, s1, o1) : OutX) = some (x, e', h', s', obs) := hr
          cases hq : Nat.beq id' id
          · rw [hq] at hr; cases hr; rw [ih b h1 hh]; show (bif Nat.beq id' id then _ else _) = _; rw [hq]; rfl
          · rw [hq] at hr; cases hr; rw [ih b h1 hh]; show (bif Nat.beq id' id then _ else _) = _; rw [hq]; rfl
        | normal => cases hr; rw [ih b h1 hh]; rfl
        | ret => cases hr; rw [ih b h1 hh]; rfl
    | scope b => exact ih b hr hh
    | region id os draw =>
      cases draw
      · have hr : regX (opsX P sc cf os.toList os.toList e h s) = some (x, e', h', s', obs) := hr
        show regK (ops P cw os.toList os.toList e h) = some (x, e', h')
        cases hx : opsX P sc cf os.toList os.toList e h s with
        | none => rw [hx] at hr; cases hr
        | some y =>
          obtain ⟨e1, hh1, fs, s1, o1⟩ := y
          rw [hx] at hr; cases hr
          rw [ops_of_opsF _ (opsX_ok hcf _ hx hh)]
          rfl
      · have hr : drawX (D id) (opsX P sc cf os.toList os.toList e h s) = some (x, e', h', s', obs) := hr
        show drawK (D id) (opsF P cw os.toList os.toList e h) = some (x, e', h')
        cases hx : opsX P sc cf os.toList os.toList e h s with
        | none => rw [hx] at hr; cases hr
        | some y =>
          obtain ⟨e1, hh1, fs, s1, o1⟩ := y
          rw [hx] at hr
          have hr : (bif drawOk (D id) fs then some (.normal, e1, hh1, s1, o1) else none : OutX) = some (x, e', h', s', obs) := hr
          cases hd : drawOk (D id) fs
          · rw [hd] at hr; cases hr
          · rw [hd] at hr; cases hr
            rw [opsX_ok hcf _ hx hh]
            show (bif drawOk (D id) fs then _ else _) = _
            rw [hd]; rfl
    | rangeFunc _ _ _ _ => cases hr
    | goto _ => cases hr
    | refuse _ => cases hr
theorem callX_ok {S : FuncId → List Nat} : ∀ n, CxOk P (callW P H) (callX P H S n)
  | 0 => fun f args h s v h' q s' obs hr _ => by cases hr
  | n + 1 => fun f args h s v h' q s' obs hr hh => by
    unfold callX at hr
    cases hf : P.funcs[f]? with
    | none => rw [hf] at hr; cases hr
    | some fn =>
      rw [hf] at hr
      dsimp only at hr
      cases hb : fn.body with
      | none => rw [hb] at hr; cases hr
      | some c =>
        rw [hb] at hr
        dsimp only at hr
        cases hx : execX P (H f) (S f) (callX P H S n) n c (Env.ofList args 0) (h.low h.next) s with
        | none => rw [hx] at hr; cases hr
        | some r =>
          obtain ⟨x, e1, h1, s1, o1⟩ := r
          rw [hx] at hr
          have key : (x = .normal ∨ x = .ret) ∧ (match resultsA P e1 h1 fn.results.toList with | some vs => (match leave h h1 vs with | (v, h'', q) => some (v, h'', q, s1, o1)) | none => none) = some (v, h', q, s', obs) := by
            cases x with
            | normal => exact ⟨.inl rfl, hr⟩
            | ret => exact ⟨.inr rfl, hr⟩
            | exit id => cases hr
          obtain ⟨hxx, hr⟩ := key
          cases hv : resultsA P e1 h1 fn.results.toList with
          | none => rw [hv] at hr; cases hr
          | some vs =>
            rw [hv] at hr
            dsimp only at hr
            cases hr
            rw [callW_eq hf hb]
            have he : execW P (H f) (callW P H) c (Env.ofList args 0) (h.low h.next) = some (x, e1, h1) := execW_iff.2 ⟨n, execX_ok (callX_ok n) n c hx hh⟩
            rw [he]
            rcases hxx with rfl | rfl
            · show (resultsA P e1 h1 fn.results.toList).map (leave h h1) = _
              rw [hv]; rfl
            · show (resultsA P e1 h1 fn.results.toList).map (leave h h1) = _
              rw [hv]; rfl
end
end
end Go.Am
