/- Runs along a script: flat functions at any heap, laws whose closed call is known, and what shows the answers of the script. -/
import Derived.Test.YtlnjhllfacmkoaaGreatAm35
import Derived.Laws.Bits64
import Derived.KernelRfl
set_option linter.unusedVariables false
set_option linter.unusedSimpArgs false
namespace Go.Am
open Go.RowKit
noncomputable section
def AllOb (P : Program) (cf : CallF) : List Ob → Prop
  | [] => True
  | o :: r => o.holds P cf ∧ AllOb P cf r
theorem all_ob {P : Program} {cf : CallF} : ∀ {l : List Ob}, AllOb P cf l → ∀ ob ∈ l, ob.holds P cf
  | [], _, ob, h => by cases h
  | o :: r, ⟨h1, h2⟩, ob, h => by
    rcases List.mem_cons.1 h with rfl | h
    · exact h1
    · exact all_ob h2 ob h
/-- a function run by itself, its calls all on the script -/
def flatX (P : Program) (H : FuncId → Draws) (S : List Nat) (n : Nat) (f : FuncId) (args : List Value) (h : Heap) (s : List Value) : Option (List Value × Heap × List Ob) :=
  match P.funcs[f]? with
  | none => none
  | some fn => match fn.body with
    | none => none
    | some c => match execX P (H f) S (fun _ _ _ _ => none) n c (Env.ofList args 0) h s with
      | some (.normal, e', h', _, o) | some (.ret, e', h', _, o) => match resultsA P e' h' fn.results.toList with
        | some vs => some (vs, h', o)
        | none => none
      | _ => none
theorem flat_ok {P : Program} {H : FuncId → Draws} {S : List Nat} {n : Nat} {f : FuncId} {args vs s : List Value} {obs : List Ob} (hr : ∀ h, flatX P H S n f args h s = some (vs, h, obs)) (hfl : vs.all flat = true) (ho : AllOb P (callW P H) obs) (h : Heap) :
    callW P H f args h = some (packR vs, h, true) := by
  have hr := hr (h.low h.next)
  unfold flatX at hr
  cases hf : P.funcs[f]? with
  | none => rw [hf] at hr; cases hr
  | some fn =>
    rw [hf] at hr
    dsimp only at hr
    cases hb : fn.body with
    | none => rw [hb] at hr; cases hr
    | some c =>
      rw [hb] at hr
      dsimp only at hr
      cases hx : execX P (H f) S (fun _ _ _ _ => none) n c (Env.ofList args 0) (h.low h.next) s with
      | none => rw [hx] at hr; cases hr
      | some r =>
        obtain ⟨x, e1, h1, s1, o1⟩ := r
        rw [hx] at hr
        have key : (x = .normal ∨ x = .ret) ∧ (match resultsA P e1 h1 fn.results.toList with | some vs => some (vs, h1, o1) | none => none) = some (vs, h.low h.next, obs) := by
          cases x with
          | normal => exact ⟨.inl rfl, hr⟩
          | ret => exact ⟨.inr rfl, hr⟩
          | exit id => cases hr
        obtain ⟨hxx, hr⟩ := key
        cases hv : resultsA P e1 h1 fn.results.toList with
        | none => rw [hv] at hr; cases hr
        | some vs1 =>
          rw [hv] at hr
          cases hr
          rw [callW_eq hf hb]
          have he : execW P (H f) (callW P H) c (Env.ofList args 0) (h.low h.next) = some (x, e1, h.low h.next) :=
            execW_iff.2 ⟨n, execX_ok (cw := callW P H) (cf := fun _ _ _ _ => none) (fun _ _ _ _ _ _ _ _ _ hh => by cases hh) n c hx (all_ob ho)⟩
          rw [he]
          have hl := leave_flat (h := h) (h1 := h.low h.next) (vs := vs) rfl hfl
          rcases hxx with rfl | rfl
          · show (resultsA P e1 (h.low h.next) fn.results.toList).map (leave h (h.low h.next)) = _
            rw [hv]; exact congrArg some hl
          · show (resultsA P e1 (h.low h.next) fn.results.toList).map (leave h (h.low h.next)) = _
            rw [hv]; exact congrArg some hl
def Ob.noCall (A : FuncId) : Ob → Bool
  | .call f _ _ => !Nat.beq f A
  | _ => true
def callA (P : Program) (H : FuncId → Draws) (S : FuncId → List Nat) (A : FuncId) (n : Nat) : CallX := fun f args h s =>
  bif Nat.beq f A then none else match callX P H S n f args h s with
  | some (v, h', q, s', obs) => bif obs.all (Ob.noCall A) then some (v, h', q, s', obs) else none
  | none => none
theorem holds_of_A {P : Program} {H : FuncId → Draws} {A : FuncId} {ob : Ob} (hn : ob.noCall A = true) (h : ob.holds P (cfA P H A)) : ob.holds P (callW P H) := by
  cases ob with
  | call f args v =>
    have hf : f ≠ A := fun e => by subst e; simp [Ob.noCall] at hn
    intro h'
    have := h h'
    rw [cfA_ne hf] at this
    exact this
  | _ => exact h
theorem callA_ok {P : Program} {H : FuncId → Draws} {S : FuncId → List Nat} {A : FuncId} {n : Nat} : CxOk P (cfA P H A) (callA P H S A n) := fun f args h s v h' q s' obs hr hh => by
  unfold callA at hr
  cases hA : Nat.beq f A
  · rw [hA] at hr
    simp only [cond_false] at hr
    cases hx : callX P H S n f args h s with
    | none => rw [hx] at hr; cases hr
    | some r =>
      obtain ⟨v1, h1, q1, s1, o1⟩ := r
      rw [hx] at hr
      dsimp only at hr
      cases ho : o1.all (Ob.noCall A)
      · rw [ho] at hr; cases hr
      · rw [ho] at hr
        cases hr
        have hf : f ≠ A := fun e => by subst e; simp at hA
        rw [cfA_ne hf]
        exact callX_ok n _ _ _ _ _ _ _ _ _ hx fun ob hb => holds_of_A (List.all_eq_true.1 ho ob hb) (hh ob hb)
  · rw [hA] at hr; cases hr
/-- a law run along a script -/
def lawX (P : Program) (H : FuncId → Draws) (S : FuncId → List Nat) (A : FuncId) (n : Nat) (f : FuncId) (args : List Value) (h : Heap) (s : List Value) : Option (List Value × List Ob) :=
  match P.funcs[f]? with
  | none => none
  | some fn => match fn.body with
    | none => none
    | some c => match execX P (H f) (S f) (callA P H S A n) n c (Env.ofList args 0) (h.low h.next) s with
      | some (.normal, e', h', _, o) | some (.ret, e', h', _, o) => match resultsA P e' h' fn.results.toList with
        | some vs => some (vs, o)
        | none => none
      | _ => none
theorem law_script {P : Program} {H : FuncId → Draws} {S : FuncId → List Nat} {A : FuncId} {n n0 : Nat} {f : FuncId} {args args' s : List Value} {obs : List Ob} {m : Mp} {w : World} {h : Heap} (hk : okProg P H = true) (hA : call P H n0 A [] heap0 = some (.bool true, heap0, true))
    (hrun : lawX P H S A n f args h s = some ([.bool true], obs)) (ho : AllOb P (cfA P H A) obs) (hw : HWf h) (ha : ∀ v ∈ args, Sc (· < h.next) v) (hheap : HRel w.heap.size w m h.get w) (hrel : LRel m args args') :
    Calls P f args'.toArray w fun en w' => en = .returned (.bool true) ∧ Below w.heap.size w w' := by
  unfold lawX at hrun
  cases hf : P.funcs[f]? with
  | none => rw [hf] at hrun; cases hrun
  | some fn =>
    rw [hf] at hrun
    dsimp only at hrun
    cases hb : fn.body with
    | none => rw [hb] at hrun; cases hrun
    | some c =>
      rw [hb] at hrun
      dsimp only at hrun
      cases hx : execX P (H f) (S f) (callA P H S A n) n c (Env.ofList args 0) (h.low h.next) s with
      | none => rw [hx] at hrun; cases hrun
      | some r =>
        obtain ⟨x, e1, h1, s1, o1⟩ := r
        rw [hx] at hrun
        have key : (x = .normal ∨ x = .ret) ∧ (match resultsA P e1 h1 fn.results.toList with | some vs => some (vs, o1) | none => none) = some ([.bool true], obs) := by
          cases x with
          | normal => exact ⟨.inl rfl, hrun⟩
          | ret => exact ⟨.inr rfl, hrun⟩
          | exit id => cases hrun
        obtain ⟨hxx, hrun⟩ := key
        cases hv : resultsA P e1 h1 fn.results.toList with
        | none => rw [hv] at hrun; cases hrun
        | some vs1 =>
          rw [hv] at hrun
          cases hrun
          have he : execW P (H f) (cfA P H A) c (Env.ofList args 0) (h.low h.next) = some (x, e1, h1) := execW_iff.2 ⟨n, execX_ok callA_ok n c hx (all_ob ho)⟩
          refine law_calls hk cfA_wf (cfA_ok hk hA) hf hb hw ha hheap hrel (outQ_iff.2 ⟨x, e1, h1, he, ?_⟩)
          rcases hxx with rfl | rfl
          · exact ⟨[.bool true], hv, rfl⟩
          · exact ⟨[.bool true], hv, rfl⟩

/-! ### what shows the answers -/
theorem pureRun_bind {α β : Type} (P : Program) (f : α → Sem β) : ∀ s : Sem α, pureRun P (s >>= f) = (pureRun P s).bind (fun x => pureRun P (f x))
  | .pure a => rfl
  | .program k => pureRun_bind P f (k P)
  | .mark _ k => pureRun_bind P f k
  | .load .. | .store .. | .new .. | .shape .. | .freeze .. | .frozen .. | .getObj .. | .setObj .. | .choose .. | .sys .. | .halt .. => rfl
section
variable {P : Program} {cf : CallF} {t s d : TypeId} {k k' : IntKind} {a b c : Int}
theorem ob_bin {op : BinOp} {v : Value} (h : abin op k a b = some v) : Ob.holds P cf (.bin op t (.int k a) (.int k b) v) := fun dst x y t' ty pos af g e hh hx hy => by
  show orElse (binI op (asIK (ev e x)) (asIK (ev e y))) (fun _ => binV P _ op t e (ev e x) (ev e y)) = _
  rw [hx, hy, asIK_int, asIK_int, binI_some, h]
  rfl
theorem ob_lss (h : a < b) : Ob.holds P cf (.bin .lss t (.int k a) (.int k b) (.bool true)) := ob_bin (by show some (Value.bool (decide _)) = _; rw [decide_eq_true h])
theorem ob_nlss (h : ¬ a < b) : Ob.holds P cf (.bin .lss t (.int k a) (.int k b) (.bool false)) := ob_bin (by show some (Value.bool (decide _)) = _; rw [decide_eq_false h])
theorem ob_gtr (h : b < a) : Ob.holds P cf (.bin .gtr t (.int k a) (.int k b) (.bool true)) := ob_bin (by show some (Value.bool (decide _)) = _; rw [decide_eq_true h])
theorem ob_ngtr (h : ¬ b < a) : Ob.holds P cf (.bin .gtr t (.int k a) (.int k b) (.bool false)) := ob_bin (by show some (Value.bool (decide _)) = _; rw [decide_eq_false h])
theorem ob_leq (h : a ≤ b) : Ob.holds P cf (.bin .leq t (.int k a) (.int k b) (.bool true)) := ob_bin (by show some (Value.bool (decide _)) = _; rw [decide_eq_true h])
theorem ob_nleq (h : ¬ a ≤ b) : Ob.holds P cf (.bin .leq t (.int k a) (.int k b) (.bool false)) := ob_bin (by show some (Value.bool (decide _)) = _; rw [decide_eq_false h])
theorem ob_geq (h : b ≤ a) : Ob.holds P cf (.bin .geq t (.int k a) (.int k b) (.bool true)) := ob_bin (by show some (Value.bool (decide _)) = _; rw [decide_eq_true h])
theorem ob_ngeq (h : ¬ b ≤ a) : Ob.holds P cf (.bin .geq t (.int k a) (.int k b) (.bool false)) := ob_bin (by show some (Value.bool (decide _)) = _; rw [decide_eq_false h])
theorem ob_eql (h : a = b) : Ob.holds P cf (.bin .eql t (.int k a) (.int k b) (.bool true)) := ob_bin (by show some (Value.bool (a == b)) = _; rw [h]; simp)
theorem ob_neql (h : ¬ a = b) : Ob.holds P cf (.bin .eql t (.int k a) (.int k b) (.bool false)) := ob_bin (by show some (Value.bool (a == b)) = _; simp [h])
theorem ob_neq (h : ¬ a = b) : Ob.holds P cf (.bin .neq t (.int k a) (.int k b) (.bool true)) := ob_bin (by show some (Value.bool (a != b)) = _; simp [h])
theorem ob_nneq (h : a = b) : Ob.holds P cf (.bin .neq t (.int k a) (.int k b) (.bool false)) := ob_bin (by show some (Value.bool (a != b)) = _; simp [h])
theorem w64 {n : Int} (h : n = c) (r : -9223372036854775808 ≤ c ∧ c ≤ 9223372036854775807) : wrapF .i64 n = c := by rw [h]; exact w64_in _ r
theorem wu64 {n : Int} (h : n % 18446744073709551616 = c) : wrapF .u64 n = c := by rw [wrapF_eq, IntKind.wrap_u64]; exact h
theorem ob_add (h : wrapF k (a + b) = c) : Ob.holds P cf (.bin .add t (.int k a) (.int k b) (.int k c)) := ob_bin (by show some (Value.int k (wrapF k (a + b))) = _; rw [h])
theorem ob_sub (h : wrapF k (a - b) = c) : Ob.holds P cf (.bin .sub t (.int k a) (.int k b) (.int k c)) := ob_bin (by show some (Value.int k (wrapF k (a - b))) = _; rw [h])
theorem ob_mul (h : wrapF k (a * b) = c) : Ob.holds P cf (.bin .mul t (.int k a) (.int k b) (.int k c)) := ob_bin (by show some (Value.int k (wrapF k (a * b))) = _; rw [h])
theorem ob_quo (h0 : ¬ b = 0) (h : wrapF k (a.tdiv b) = c) : Ob.holds P cf (.bin .quo t (.int k a) (.int k b) (.int k c)) := ob_bin (by show (if b = 0 then none else some (Value.int k (wrapF k (a.tdiv b)))) = _; rw [if_neg h0, h])
theorem ob_rem (h0 : ¬ b = 0) (h : a.tmod b = c) : Ob.holds P cf (.bin .rem t (.int k a) (.int k b) (.int k c)) := ob_bin (by show (if b = 0 then none else some (Value.int k (a.tmod b))) = _; rw [if_neg h0, h])
theorem ob_neg (h : wrapF k (0 - a) = c) : Ob.holds P cf (.un .neg (.int k a) (.int k c)) := fun dst t x ty pos af g e hh hx => by
  show unV P _ e .neg (ev e x) = _
  rw [hx]
  show some (Res.val (.int k (wrapF k (0 - a))) [] .non) = _
  rw [h]
theorem bin_pure {op : BinOp} {v : Value} (h1 : abin op k a b = none ∨ k ≠ k') (h : pureRun P (binOp op t (.int k a) (.int k' b)) = some v) (hg : (!(op matches .eql | .neq)) = true) (hv : flat v = true) : Ob.holds P cf (.bin op t (.int k a) (.int k' b) v) := fun dst x y t' ty pos af g e hh hx hy => by
  show orElse (binI op (asIK (ev e x)) (asIK (ev e y))) (fun _ => binV P _ op t e (ev e x) (ev e y)) = _
  have hb : binI op (asIK (ev e x)) (asIK (ev e y)) = none := by
    rw [hx, hy, asIK_int, asIK_int]
    unfold binI
    dsimp only
    by_cases hkk : k = k'
    · subst hkk
      rcases h1 with h1 | h1
      · rw [h1]; simp
      · exact absurd rfl h1
    · simp [hkk]
  rw [hb]
  show binV P _ op t e (ev e x) (ev e y) = _
  unfold binV
  have he : pureRun P (execOp (ev e) ⟨dst, .binOp op t x y t', ty, pos, af, g⟩) = some (.value v) := by
    show pureRun P ((eqGuard op t x y (ev e x) (ev e y) >>= fun _ => binOp op t (ev e x) (ev e y)) >>= fun v => pure (Next.value v)) = _
    have hge : pureRun P (eqGuard op t x y (ev e x) (ev e y)) = some () := by
      unfold eqGuard
      cases op <;> first | rfl | cases hg
    rw [pureRun_bind, pureRun_bind, hge, hx, hy]
    show ((pureRun P (binOp op t (.int k a) (.int k' b))).bind _) = _
    rw [h]
    rfl
  rw [he, hx, hy]
  show (bif flat v then some (Res.val v [] .non) else none) = _
  rw [hv]
  rfl
theorem ob_shr (n : Nat) (hn : n ≤ k.bits) (h : a / 2 ^ n = c) : Ob.holds P cf (.bin .shr t (.int k a) (.int k' (n : Int)) (.int k c)) := by
  refine bin_pure (.inl rfl) ?_ rfl rfl
  show pureRun P (Op.shift .shr k a k' n) = _
  unfold Op.shift
  rw [if_neg (by omega)]
  have e : min (n : Int).toNat k.bits = n := by rw [Int.toNat_natCast]; omega
  dsimp only
  rw [e, Int.fdiv_eq_ediv_of_nonneg _ (Int.le_of_lt (Int.pow_pos (by decide))), h]
  rfl
theorem ob_shl (n : Nat) (hn : n ≤ k.bits) (h : k.wrap (a * 2 ^ n) = c) : Ob.holds P cf (.bin .shl t (.int k a) (.int k' (n : Int)) (.int k c)) := by
  refine bin_pure (.inl rfl) ?_ rfl rfl
  show pureRun P (Op.shift .shl k a k' n) = _
  unfold Op.shift
  rw [if_neg (by omega)]
  have e : min (n : Int).toNat k.bits = n := by rw [Int.toNat_natCast]; omega
  dsimp only
  rw [e, h]
  rfl
theorem bv_u64 {x : Int} (h : 0 ≤ x ∧ x < 18446744073709551616) : BitVec.ofInt 64 x = BitVec.ofNat 64 x.toNat := by
  obtain ⟨n, rfl⟩ : ∃ n : Nat, x = (n : Int) := ⟨x.toNat, by omega⟩
  rw [BitVec.ofInt_natCast, Int.toNat_natCast]
theorem ob_and (n : Nat) (hn : n ≤ 64) (ha : 0 ≤ a ∧ a < 18446744073709551616) (hm : 2 ^ n - 1 = b) (h : a % 2 ^ n = c) : Ob.holds P cf (.bin .and t (.int .u64 a) (.int .u64 b) (.int .u64 c)) := by
  refine bin_pure (.inl rfl) ?_ rfl rfl
  show pureRun P (Op.intBits .and .u64 a b) = _
  subst hm
  obtain ⟨x, rfl⟩ : ∃ n : Nat, a = (n : Int) := ⟨a.toNat, by omega⟩
  have hp : (2 : Int) ^ n - 1 = ((2 ^ n - 1 : Nat) : Int) := by
    have h1 := Nat.one_le_two_pow (n := n)
    rw [Int.ofNat_sub h1]
    simp
  have hlt : (2 : Nat) ^ n ≤ 2 ^ 64 := Nat.pow_le_pow_right (by decide) hn
  unfold Op.intBits
  show pureRun P (pure (Value.int .u64 (IntKind.u64.wrap (((BitVec.ofInt 64 (x : Int)) &&& (BitVec.ofInt 64 ((2 : Int) ^ n - 1))).toNat : Int)))) = _
  rw [hp, BitVec.ofInt_natCast, BitVec.ofInt_natCast, BitVec.toNat_and, BitVec.toNat_ofNat, BitVec.toNat_ofNat, Nat.mod_eq_of_lt (by omega), Nat.mod_eq_of_lt (by omega), Nat.and_two_pow_sub_one_eq_mod, IntKind.wrap_u64]
  have e : ((x % 2 ^ n : Nat) : Int) = (x : Int) % 2 ^ n := by simp
  have hx2 : x % 2 ^ n ≤ x := Nat.mod_le _ _
  rw [Int.emod_eq_of_lt (by omega) (by omega), e, h]
  rfl
/-- the bits of two numbers, one a multiple of 2^n, the other below it -/
theorem ob_or (n : Nat) (hb : 0 ≤ b ∧ b < 2 ^ n) (ha : 0 ≤ a) (hd : a % 2 ^ n = 0) (hs : a + b < 18446744073709551616) (h : a + b = c) : Ob.holds P cf (.bin .or t (.int .u64 a) (.int .u64 b) (.int .u64 c)) := by
  refine bin_pure (.inl rfl) ?_ rfl rfl
  show pureRun P (Op.intBits .or .u64 a b) = _
  obtain ⟨x, rfl⟩ : ∃ n : Nat, a = (n : Int) := ⟨a.toNat, by omega⟩
  obtain ⟨y, rfl⟩ : ∃ n : Nat, b = (n : Int) := ⟨b.toNat, by omega⟩
  have hd' : x % 2 ^ n = 0 := by
    have : ((x % 2 ^ n : Nat) : Int) = 0 := by simpa using hd
    omega
  have hy : y < 2 ^ n := by
    have : (y : Int) < ((2 ^ n : Nat) : Int) := by simpa using hb.2
    omega
  have hx : x = 2 ^ n * (x / 2 ^ n) := by have := Nat.div_add_mod x (2 ^ n); omega
  have hor : x ||| y = x + y := by
    rw [hx, ← Nat.two_pow_add_eq_or_of_lt hy]
  unfold Op.intBits
  show pureRun P (pure (Value.int .u64 (IntKind.u64.wrap (((BitVec.ofInt 64 (x : Int)) ||| (BitVec.ofInt 64 (y : Int))).toNat : Int)))) = _
  rw [BitVec.ofInt_natCast, BitVec.ofInt_natCast, BitVec.toNat_or, BitVec.toNat_ofNat, BitVec.toNat_ofNat, Nat.mod_eq_of_lt (by omega), Nat.mod_eq_of_lt (by omega), hor, IntKind.wrap_u64, Int.emod_eq_of_lt (by omega) (by omega)]
  subst h
  simp
  rfl
theorem ob_conv {ds : TypeDesc} (hs : P.underlying s = some ds) (hd : P.underlying d = some (.int k')) (h : k'.wrap a = c) : Ob.holds P cf (.conv s d (.int k a) (.int k' c)) := fun dst x ty pos af g e hh hx => by
  show convertS P _ s d x e hh = _
  have hb : isBytes P s d = false := by
    unfold isBytes
    rw [hs, hd]
    cases ds <;> rfl
  unfold convertS
  rw [hb]
  show pureS P _ e hh = _
  unfold pureS
  have h2 : ((Op.convert s d x).operands.toList.all fun x => flat (ev e x)) = true := by simp [Op.operands, hx, flat, flat1, flatCell]
  have he : pureRun P (execOp (ev e) ⟨dst, .convert s d x, ty, pos, af, g⟩) = some (.value (.int k' c)) := by
    show pureRun P (convert s d (ev e x) >>= fun v => pure (Next.value v)) = _
    rw [pureRun_bind, hx]
    have hu : ∀ t, pureRun P (underlying t) = P.underlying t := fun t => by
      unfold underlying
      rw [pureRun_bind]
      show ((some P).bind _) = _
      dsimp only [Option.bind_some]
      cases P.underlying t <;> rfl
    have hc : pureRun P (convert s d (.int k a)) = some (.int k' c) := by
      unfold convert
      rw [pureRun_bind, hu, hs]
      show pureRun P (underlying d >>= _) = _
      rw [pureRun_bind, hu, hd]
      show pureRun P (Conv.intToInt k' a) = _
      unfold Conv.intToInt
      rw [h]
      rfl
    rw [hc]
    rfl
  show (bif ((Op.convert s d x).operands.toList.all fun x => flat (ev e x)) then asValue (pureRun P _) else none) = _
  rw [h2, he]
  rfl
theorem ob_max {ts : List TypeId} {ty : TypeId} (h : (if a < b then b else a) = c) : Ob.holds P cf (.mx true [.int k a, .int k b] ts ty (.int k c)) := fun dst args tys pos af g e hh ha ht => by
  obtain ⟨l⟩ := args
  have ha : l.map (ev e) = [.int k a, .int k b] := ha
  match l, ha with
  | [], ha => cases ha
  | [_], ha => simp at ha
  | _ :: _ :: _ :: _, ha => simp at ha
  | [x, y], ha =>
    simp only [List.map_cons, List.map_nil, List.cons.injEq, and_true] at ha
    obtain ⟨hx, hy⟩ := ha
    show pureS P _ e hh = _
    unfold pureS
    have h2 : ((Op.call ⟨.builtin .max, ⟨[x, y]⟩, tys⟩).operands.toList.all fun x => flat (ev e x)) = true := by simp [Op.operands, Call.operands, hx, hy, flat, flat1, flatCell]
    have he : pureRun P (execOp (ev e) ⟨dst, .call ⟨.builtin .max, ⟨[x, y]⟩, tys⟩, ty, pos, af, g⟩) = some (.value (.int k c)) := by
      have h0 : execOp (ev e) ⟨dst, .call ⟨.builtin .max, ⟨[x, y]⟩, tys⟩, ty, pos, af, g⟩ = (Builtin.max_ tys ty #[ev e x, ev e y] >>= fun v => pure (Next.value v)) := by kernel_rfl
      rw [h0, hx, hy, pureRun_bind]
      have hm : pureRun P (Builtin.max_ tys ty #[.int k a, .int k b]) = some (.int k (if a < b then b else a)) := by kernel_rfl
      rw [hm, h]
      rfl
    show (bif ((Op.call ⟨.builtin .max, ⟨[x, y]⟩, tys⟩).operands.toList.all fun x => flat (ev e x)) then asValue (pureRun P (execOp (ev e) ⟨dst, .call ⟨.builtin .max, ⟨[x, y]⟩, tys⟩, ty, pos, af, g⟩)) else none) = _
    rw [h2, he]
    rfl
theorem ob_min {ts : List TypeId} {ty : TypeId} (h : (if b < a then b else a) = c) : Ob.holds P cf (.mx false [.int k a, .int k b] ts ty (.int k c)) := fun dst args tys pos af g e hh ha ht => by
  obtain ⟨l⟩ := args
  have ha : l.map (ev e) = [.int k a, .int k b] := ha
  match l, ha with
  | [], ha => cases ha
  | [_], ha => simp at ha
  | _ :: _ :: _ :: _, ha => simp at ha
  | [x, y], ha =>
    simp only [List.map_cons, List.map_nil, List.cons.injEq, and_true] at ha
    obtain ⟨hx, hy⟩ := ha
    show pureS P _ e hh = _
    unfold pureS
    have h2 : ((Op.call ⟨.builtin .min, ⟨[x, y]⟩, tys⟩).operands.toList.all fun x => flat (ev e x)) = true := by simp [Op.operands, Call.operands, hx, hy, flat, flat1, flatCell]
    have he : pureRun P (execOp (ev e) ⟨dst, .call ⟨.builtin .min, ⟨[x, y]⟩, tys⟩, ty, pos, af, g⟩) = some (.value (.int k c)) := by
      have h0 : execOp (ev e) ⟨dst, .call ⟨.builtin .min, ⟨[x, y]⟩, tys⟩, ty, pos, af, g⟩ = (Builtin.min_ tys ty #[ev e x, ev e y] >>= fun v => pure (Next.value v)) := by kernel_rfl
      rw [h0, hx, hy, pureRun_bind]
      have hm : pureRun P (Builtin.min_ tys ty #[.int k a, .int k b]) = some (.int k (if b < a then b else a)) := by kernel_rfl
      rw [hm, h]
      rfl
    show (bif ((Op.call ⟨.builtin .min, ⟨[x, y]⟩, tys⟩).operands.toList.all fun x => flat (ev e x)) then asValue (pureRun P (execOp (ev e) ⟨dst, .call ⟨.builtin .min, ⟨[x, y]⟩, tys⟩, ty, pos, af, g⟩)) else none) = _
    rw [h2, he]
    rfl
theorem back_i64 (h : -9223372036854775808 ≤ a ∧ a ≤ 9223372036854775807) : IntKind.i64.wrap ((BitVec.ofInt 64 a).toNat : Int) = a := by
  rw [IntKind.wrap_i64, BitVec.toNat_ofInt]
  omega
theorem ob_xor0 (h : -9223372036854775808 ≤ a ∧ a ≤ 9223372036854775807) : Ob.holds P cf (.bin .xor t (.int .i64 0) (.int .i64 a) (.int .i64 a)) := by
  refine bin_pure (.inl rfl) ?_ rfl rfl
  show pureRun P (Op.intBits .xor .i64 0 a) = _
  unfold Op.intBits
  show pureRun P (pure (Value.int .i64 (IntKind.i64.wrap (((BitVec.ofInt 64 0) ^^^ (BitVec.ofInt 64 a)).toNat : Int)))) = _
  rw [show BitVec.ofInt 64 0 = 0#64 from rfl, BitVec.zero_xor, back_i64 h]
  rfl
theorem ob_xorself : Ob.holds P cf (.bin .xor t (.int .i64 a) (.int .i64 a) (.int .i64 0)) := by
  refine bin_pure (.inl rfl) ?_ rfl rfl
  show pureRun P (Op.intBits .xor .i64 a a) = _
  unfold Op.intBits
  show pureRun P (pure (Value.int .i64 (IntKind.i64.wrap (((BitVec.ofInt 64 a) ^^^ (BitVec.ofInt 64 a)).toNat : Int)))) = _
  rw [BitVec.xor_self]
  rfl
theorem ob_and0 : Ob.holds P cf (.bin .and t (.int .i64 a) (.int .i64 0) (.int .i64 0)) := by
  refine bin_pure (.inl rfl) ?_ rfl rfl
  show pureRun P (Op.intBits .and .i64 a 0) = _
  unfold Op.intBits
  show pureRun P (pure (Value.int .i64 (IntKind.i64.wrap (((BitVec.ofInt 64 a) &&& (BitVec.ofInt 64 0)).toNat : Int)))) = _
  rw [show BitVec.ofInt 64 0 = 0#64 from rfl, BitVec.and_zero]
  rfl
theorem ob_nil : AllOb P cf [] := trivial
theorem ob_cons {o : Ob} {r : List Ob} (h1 : o.holds P cf) (h2 : AllOb P cf r) : AllOb P cf (o :: r) := ⟨h1, h2⟩
theorem ob_call {f : FuncId} {args : List Value} {v : Value} (h : ∀ h, cf f args h = some (v, h, true)) : Ob.holds P cf (.call f args v) := h
end
end
end Go.Am
