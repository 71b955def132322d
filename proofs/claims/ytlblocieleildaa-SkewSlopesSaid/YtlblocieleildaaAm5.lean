/- What the operations do in both machines: the operations that touch no memory. -/
import Derived.Test.YtlblocieleildaaAm4
set_option linter.unusedVariables false
set_option linter.unusedSimpArgs false
namespace Go.Am
open Go.RowKit

/-- what is known when an operation is carried out -/
structure Pre (P : Program) (o : Oper) (e : Env) (a : Act) (B : Nat) (m : Mp) (h : Heap) (w : World) (p : Nat → Prop) : Prop where
  rel : ∀ x ∈ o.op.operands, VRel m (ev e x) (a.eval x)
  sc : ∀ x ∈ o.op.operands, Sc p (ev e x)
  plain : ∀ b x, h.get b = some x → x.cells.all plainCell = true
  base : B ≤ w.heap.size
def Res.rd : Res → List Nat
  | .val _ rd _ | .unit rd _ => rd
  | .enter _ _ => []
def Res.eff : Res → Eff
  | .val _ _ f | .unit _ f => f
  | .enter _ _ => .non
def Reads (B : Nat) (m : Mp) (h : Heap) (w : World) (p : Nat → Prop) (l : List Nat) : Prop := ∀ b ∈ l, ∀ x, h.get b = some x → BRel B m w b x ∧ ∀ v ∈ x.cells, Sc p v
section
variable {P : Program} {dst : Option Tmp} {ty : TypeId} {pos : String} {af : Array Edge} {g : Option (Nat × Bool)} {e : Env} {a : Act} {B : Nat} {m : Mp} {h : Heap} {w : World} {r : Res} {p : Nat → Prop}

theorem sim_move {x : Operand} (hp : Pre P ⟨dst, .move x, ty, pos, af, g⟩ e a B m h w p) (hs : moveS x e h = some r) : Sim P ⟨dst, .move x, ty, pos, af, g⟩ a B m h w r := by
  cases hs
  exact .still (v' := a.eval x) rfl (hp.rel x (by simp [Op.operands]))
theorem sim_assign {x : Operand} (hp : Pre P ⟨dst, .assign x, ty, pos, af, g⟩ e a B m h w p) (hs : moveS x e h = some r) : Sim P ⟨dst, .assign x, ty, pos, af, g⟩ a B m h w r := by
  cases hs
  exact .still (v' := a.eval x) rfl (hp.rel x (by simp [Op.operands]))
theorem sim_pick {c x y : Operand} (hp : Pre P ⟨dst, .pick c x y, ty, pos, af, g⟩ e a B m h w p) (hs : pickS c x y e h = some r) : Sim P ⟨dst, .pick c x y, ty, pos, af, g⟩ a B m h w r := by
  have hc := hp.rel c (by simp [Op.operands])
  have hx := hp.rel x (by simp [Op.operands])
  have hy := hp.rel y (by simp [Op.operands])
  unfold pickS at hs
  split at hs
  · rename_i t ht
    cases hs
    rw [ht] at hc
    have hc := hc.bool
    refine .still (v' := if t then a.eval x else a.eval y) ?_ ?_
    · show (do pure (Next.value (if ← asBool (a.eval c) then a.eval x else a.eval y)) : Sem Next).run P w = _
      rw [hc]; rfl
    · cases t <;> simp [hx, hy]
  · cases hs
theorem asValue_some {n : Option Next} {r : Res} (h : asValue n = some r) : ∃ v, n = some (.value v) ∧ flat v = true ∧ r = .val v [] .non := by
  unfold asValue at h
  split at h
  · rename_i v
    cases hf : flat v
    · rw [hf] at h; cases h
    · rw [hf] at h; cases h; exact ⟨v, rfl, hf, rfl⟩
  · cases h
theorem sim_ofPure {o : Oper} (hsel : ∀ cs b, o.op ≠ .select cs b) (hp : Pre P o e a B m h w p) (hf : ∀ x ∈ o.op.operands, flat (ev e x) = true) (hs : asValue (pureRun P (execOp (ev e) o)) = some r) : Sim P o a B m h w r := by
  obtain ⟨v, hv, hfl, rfl⟩ := asValue_some hs
  refine .still (v' := v) ?_ (VRel.flat hfl)
  have : execOp (ev e) o = execOp a.eval o := execOp_congr o hsel fun x hx => ((hp.rel x (by simpa using hx)).of_flat (hf x (by simpa using hx))).symm
  rw [← this]
  exact pureRun_run hv w
theorem sim_pure {o : Oper} (hsel : ∀ cs b, o.op ≠ .select cs b) (hp : Pre P o e a B m h w p) (hs : pureS P o e h = some r) : Sim P o a B m h w r := by
  unfold pureS at hs
  cases hf : o.op.operands.toList.all fun x => flat (ev e x)
  · rw [hf] at hs; cases hs
  · rw [hf] at hs
    exact sim_ofPure hsel hp (fun x hx => List.all_eq_true.1 hf x (by simpa using hx)) hs
theorem run_nilCheck {x : Operand} {u : Value} (hu : a.eval x = u) (hk : (∃ ad, u = .pointer (some ad)) ∨ (∃ gg f c, u = .func (.func gg) f c) ∨ ∃ t v, u = .iface t v) :
    (execOp a.eval ⟨dst, .nilCheck x, ty, pos, af, g⟩).run P w = .ok (.value u) w := by
  unfold execOp
  dsimp only
  rw [hu]
  rcases hk with ⟨ad, rfl⟩ | ⟨gg, f, c, rfl⟩ | ⟨t, v, rfl⟩ <;> rfl
theorem sim_nilCheck {x : Operand} (hp : Pre P ⟨dst, .nilCheck x, ty, pos, af, g⟩ e a B m h w p) (hs : nilCheckS x e h = some r) : Sim P ⟨dst, .nilCheck x, ty, pos, af, g⟩ a B m h w r := by
  have hx := hp.rel x (by simp [Op.operands])
  obtain ⟨u, hu⟩ : ∃ u, a.eval x = u := ⟨_, rfl⟩
  rw [hu] at hx
  unfold nilCheckS at hs
  split at hs
  · rename_i ad he
    cases hs
    rw [he] at hx
    refine .still (v' := u) (run_nilCheck hu (.inl ?_)) hx
    cases hx with
    | same _ hh => cases hh
    | ptr b o => exact ⟨_, rfl⟩
  · rename_i gg first captured he
    cases hs
    rw [he] at hx
    refine .still (v' := u) (run_nilCheck hu (.inr (.inl ?_))) hx
    cases hx with
    | same _ hh => cases hh
    | func fn xs xs' ys ys' hs h hs' h' => exact ⟨_, _, _, rfl⟩
  · rename_i t v he
    cases hs
    rw [he] at hx
    refine .still (v' := u) (run_nilCheck hu (.inr (.inr ?_))) hx
    cases hx with
    | same _ hh => cases hh
    | iface t v v' h => exact ⟨_, _, rfl⟩
  · cases hs

/-! ### Types -/
theorem run_szOf {t : TypeId} {n : Nat} (hz : szOf P t = some n) (w : World) : (sizeOf t).run P w = .ok n w := by
  unfold szOf at hz
  obtain ⟨i, hi, rfl⟩ := Option.map_eq_some_iff.1 hz
  simp [sizeOf, typeInfo, hi]
theorem run_isAgg {t : TypeId} {b : Bool} (hz : aggT P t = some b) (w : World) : (isAgg t).run P w = .ok b w := by
  unfold aggT at hz
  obtain ⟨d, hd, hb⟩ := Option.map_eq_some_iff.1 hz
  simp only [isAgg, Sem.run_bind, run_underlying hd, Result.andThen_ok]
  subst hb
  split <;> simp_all
theorem run_sureAddr (ad : Addr) (w : World) : (Instr.sureAddr (.pointer (some ad))).run P w = .ok ad w := rfl

theorem sim_fieldAddr {s : TypeId} {x : Operand} {f : Nat} (hp : Pre P ⟨dst, .fieldAddr s x f, ty, pos, af, g⟩ e a B m h w p) (hs : fieldAddrS P s x f e h = some r) : Sim P ⟨dst, .fieldAddr s x f, ty, pos, af, g⟩ a B m h w r := by
  have hx := hp.rel x (by simp [Op.operands])
  unfold fieldAddrS at hs
  cases hu : P.underlying s with
  | none => rw [hu] at hs; cases hs
  | some d =>
    rw [hu] at hs
    cases d with
    | struct fields =>
      dsimp only at hs
      cases hf : fields[f]? with
      | none => rw [hf] at hs; cases hs
      | some fd =>
      rw [hf] at hs
      dsimp only at hs
      cases hn : szOf P fd.type with
      | none => rw [hn] at hs; cases hs
      | some n =>
        rw [hn] at hs
        dsimp only at hs
        cases h0 : Nat.beq n 0
        · rw [h0] at hs
          have hn0 : n ≠ 0 := fun hh => by rw [hh] at h0; cases h0
          simp only [cond_false] at hs
          cases hq : asPtr (ev e x) with
          | none => rw [hq] at hs; cases hs
          | some bo =>
            obtain ⟨b, o⟩ := bo
            rw [hq] at hs
            cases hs
            have he := hx.asPtr hq
            refine .still (v' := .pointer (some ⟨(m b).blk, (m b).off + (o + fd.offset), none⟩)) ?_ (.ptr b (o + fd.offset))
            refine run_v (s := Instr.fieldAt s (a.eval x) f) ?_
            rw [he]
            simp [Instr.fieldAt, run_underlying hu, hf, run_sureAddr, fieldPlace, run_szOf hn, hn0, add_lit, Nat.add_assoc]
        · rw [h0] at hs; cases hs
    | _ => cases hs
theorem inRange_iff {k : Int} {n : Nat} (hr : inRange k n = true) : 0 ≤ k ∧ k < n := by
  unfold inRange at hr
  split at hr
  · rename_i mm
    have := Nat.le_of_ble_eq_true hr
    constructor
    · exact Int.natCast_nonneg _
    · show (mm : Int) < n; omega
  · cases hr
theorem indexV_some {sz : Nat} {k : Option Int} {s : Option (Option (Nat × Nat) × Nat × Nat)} {r : Res} (hs : indexV sz k s = some r) :
    ∃ i b o len cap, k = some i ∧ s = some (some (b, o), len, cap) ∧ 0 ≤ i ∧ i < (len : Int) ∧ r = .val (.pointer (some ⟨b, o + i.toNat * sz, none⟩)) [] .non := by
  unfold indexV at hs
  split at hs
  · rename_i i b o len cap
    cases hr : inRange i len
    · rw [hr] at hs; cases hs
    · rw [hr] at hs; cases hs
      obtain ⟨h1, h2⟩ := inRange_iff hr
      exact ⟨i, b, o, len, cap, rfl, rfl, h1, h2, rfl⟩
  · cases hs
theorem sim_indexAddr {t : TypeId} {x i : Operand} (hp : Pre P ⟨dst, .indexAddr t x i, ty, pos, af, g⟩ e a B m h w p) (hs : indexAddrS P t x i e h = some r) : Sim P ⟨dst, .indexAddr t x i, ty, pos, af, g⟩ a B m h w r := by
  have hx := hp.rel x (by simp [Op.operands])
  have hi := hp.rel i (by simp [Op.operands])
  unfold indexAddrS at hs
  cases hu : P.underlying t with
  | none => rw [hu] at hs; cases hs
  | some d =>
    rw [hu] at hs
    cases d with
    | slice el =>
      dsimp only at hs
      cases hz : szOf P el with
      | none => rw [hz] at hs; cases hs
      | some sz =>
        rw [hz] at hs
        obtain ⟨k, b, o, len, cap, h1, h2, h3, h4, rfl⟩ := indexV_some hs
        obtain ⟨kk, hik⟩ := hi.asI h1
        obtain ⟨_, c', he, _⟩ := hx.asSl h2
        refine .still (v' := .pointer (some ⟨(m b).blk, (m b).off + (o + k.toNat * sz), none⟩)) ?_ (.ptr b _)
        refine run_v (s := Instr.indexAt t (a.eval x) (a.eval i)) ?_
        rw [he, hik]
        simp [Instr.indexAt, asIntOf, run_underlying hu, h3, h4, run_szOf hz, add_lit, Nat.add_assoc]
    | array len el =>
      dsimp only at hs
      cases hz : szOf P el with
      | none => rw [hz] at hs; cases hs
      | some sz =>
        rw [hz] at hs
        obtain ⟨k, b, o, len', cap, h1, h2, h3, h4, rfl⟩ := indexV_some hs
        obtain ⟨kk, hik⟩ := hi.asI h1
        obtain ⟨p, hp1, hp2⟩ := Option.map_eq_some_iff.1 h2
        cases hp2
        have he := hx.asPtr hp1
        refine .still (v' := .pointer (some ⟨(m b).blk, (m b).off + (o + k.toNat * sz), none⟩)) ?_ (.ptr b _)
        refine run_v (s := Instr.indexAt t (a.eval x) (a.eval i)) ?_
        rw [he, hik]
        simp [Instr.indexAt, asIntOf, run_underlying hu, h3, h4, run_szOf hz, add_lit, Nat.add_assoc, run_sureAddr]
    | _ => cases hs
theorem sim_extract {x : Operand} {i : Nat} (hp : Pre P ⟨dst, .extract x i, ty, pos, af, g⟩ e a B m h w p) (hs : extractS x i e h = some r) : Sim P ⟨dst, .extract x i, ty, pos, af, g⟩ a B m h w r := by
  have hx := hp.rel x (by simp [Op.operands])
  unfold extractS at hs
  split at hs
  · rename_i vs he
    obtain ⟨v, hv, rfl⟩ := Option.map_eq_some_iff.1 hs
    rw [he] at hx
    obtain ⟨u, hu⟩ : ∃ u, a.eval x = u := ⟨_, rfl⟩
    rw [hu] at hx
    cases hx with
    | same _ hh => cases hh
    | tuple _ ys hs hr =>
      have hlt : i < ys.size := by
        rw [hs]
        rcases Nat.lt_or_ge i vs.size with hh | hh
        · exact hh
        · rw [Array.getElem?_eq_none hh] at hv; cases hv
      have hy : ys[i]? = some ys[i] := by simp [hlt]
      refine .still (v' := ys[i]) ?_ (hr i v _ hv hy)
      refine run_v (s := Instr.extract (a.eval x) i) ?_
      rw [hu]
      simp [Instr.extract, hy]
  · cases hs
theorem run_builtin {b : Builtin} {args : Array Operand} {argTypes : Array TypeId} : (execOp a.eval ⟨dst, .call ⟨.builtin b, args, argTypes⟩, ty, pos, af, g⟩).run P w =
    (builtin b argTypes ty (args.map fun | .const _ => true | _ => false) (args.map a.eval)).run P w := by
  simp only [execOp, resolve, Sem.run_bind, Sem.run_pure, Result.andThen_ok, invoke]
  rfl
theorem sim_len {x : Operand} {t : TypeId} (hp : Pre P ⟨dst, .call ⟨.builtin .len, #[x], #[t]⟩, ty, pos, af, g⟩ e a B m h w p) (hs : lenS P t x e h = some r) : Sim P ⟨dst, .call ⟨.builtin .len, #[x], #[t]⟩, ty, pos, af, g⟩ a B m h w r := by
  have hx := hp.rel x (by simp [Op.operands, Call.operands])
  have hrun : (execOp a.eval ⟨dst, .call ⟨.builtin .len, #[x], #[t]⟩, ty, pos, af, g⟩).run P w = (do pure (.value (← Builtin.len_ #[t] ty #[a.eval x])) : Sem Next).run P w := by
    rw [run_builtin]; simp [builtin]
  unfold lenS at hs
  cases hu : P.underlying t with
  | none => rw [hu] at hs; cases hs
  | some d =>
    rw [hu] at hs
    cases d with
    | string =>
      dsimp only at hs
      unfold lenStr at hs
      split at hs
      · rename_i s he
        cases hs
        rw [he] at hx
        have hx := VRel.of_flatCell rfl hx
        refine .still (v' := .int .i64 s.size) (hrun.trans (run_v ?_)) (VRel.flat rfl)
        rw [hx]
        simp [Builtin.len_, run_underlying hu, goInt]
      · cases hs
    | slice el =>
      dsimp only at hs
      unfold lenV at hs
      split at hs
      · rename_i ad n cc he
        cases hs
        rw [he] at hx
        have : ∃ ad' c', a.eval x = .slice ad' n c' := by
          obtain ⟨u, hu⟩ : ∃ u, a.eval x = u := ⟨_, rfl⟩
          rw [hu] at hx ⊢
          cases hx with
          | same _ _ => exact ⟨_, _, rfl⟩
          | sl b o n c c' hc => exact ⟨_, _, rfl⟩
        obtain ⟨ad', c', hx⟩ := this
        refine .still (v' := .int .i64 n) (hrun.trans (run_v ?_)) (VRel.flat rfl)
        rw [hx]
        simp [Builtin.len_, run_underlying hu, goInt]
      · cases hs
    | _ => cases hs
end
end Go.Am
