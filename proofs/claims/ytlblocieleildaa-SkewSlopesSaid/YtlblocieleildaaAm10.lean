/- All operations together: what the abstract machine does, the model does. What the abstract machine keeps of its own heap. -/
import Derived.Test.YtlblocieleildaaAm9
set_option linter.unusedVariables false
set_option linter.unusedSimpArgs false
namespace Go.Am
open Go.RowKit
section
variable {P : Program} {dst : Option Tmp} {ty : TypeId} {pos : String} {af : Array Edge} {g : Option (Nat × Bool)} {e : Env} {a : Act} {B : Nat} {m : Mp} {h : Heap} {w : World} {r : Res} {p : Nat → Prop}

theorem LRel.of_arrays {xs ys : Array Value} (hs : ys.size = xs.size) (hr : ∀ (i : Nat) (v v' : Value), xs[i]? = some v → ys[i]? = some v' → VRel m v v') : LRel m xs.toList ys.toList :=
  ⟨by simpa using hs, fun i v v' h1 h2 => hr i v v' (by simpa using h1) (by simpa using h2)⟩
theorem map_rel {l : List Operand} (hr : ∀ x ∈ l, VRel m (ev e x) (a.eval x)) : LRel m (l.map (ev e)) (l.map a.eval) := by
  induction l with
  | nil => exact .nil
  | cons x l ih => exact .cons (hr x (by simp)) (ih fun y hy => hr y (by simp [hy]))
theorem sim_call {f : Operand} {args : Array Operand} {ts : Array TypeId} (hp : Pre P ⟨dst, .call ⟨.value f, args, ts⟩, ty, pos, af, g⟩ e a B m h w p) (hs : callS P f args e h = some r) :
    Sim P ⟨dst, .call ⟨.value f, args, ts⟩, ty, pos, af, g⟩ a B m h w r := by
  have hf := hp.rel f (by simp [Op.operands, Call.operands])
  have hargs : LRel m (args.toList.map (ev e)) (args.toList.map a.eval) := map_rel fun x hx => hp.rel x (by simp [Op.operands, Call.operands]; exact .inr (by simpa using hx))
  unfold callS at hs
  split at hs
  · rename_i gg first captured he
    cases hb : hasBody P gg
    · rw [hb] at hs; cases hs
    · rw [hb] at hs
      cases hs
      rw [he] at hf
      obtain ⟨u, hu⟩ : ∃ u, a.eval f = u := ⟨_, rfl⟩
      rw [hu] at hf
      cases hf with
      | same _ hh => cases hh
      | func _ _ xs' _ ys' hs1 h1 hs2 h2 =>
        refine ⟨xs'.toList ++ args.toList.map a.eval ++ ys'.toList, ?_, ((LRel.of_arrays hs1 h1).append hargs).append (LRel.of_arrays hs2 h2)⟩
        unfold hasBody at hb
        split at hb
        · rename_i fn hfn
          rw [Bool.and_eq_true] at hb
          obtain ⟨hb1, hb2⟩ := hb
          have hn : (fn.name == "runtime.NumGoroutine") = false := by simpa using hb2
          have hbn : fn.body.isNone = false := by cases hq : fn.body <;> simp_all
          simp only [execOp, resolve, Sem.run_bind, hu, Deferred.ofValue, Sem.run_pure, Result.andThen_ok, invoke, callFunc, run_program, hfn, hn, hbn, Bool.false_eq_true, if_false]
          congr 2
          apply Array.ext'
          simp
        · cases hb
  · cases hs
theorem sim {o : Oper} (hp : Pre P o e a B m h w p) (hs : stepOf P o e h = some r) (hT : Reads B m h w p r.rd) (hpn : r.eff.isNew = true → ¬ p h.next) : Sim P o a B m h w r := by
  obtain ⟨dst, op, ty, pos, af, g⟩ := o
  cases op with
  | move x => exact sim_move hp hs
  | assign x => exact sim_assign hp hs
  | pick c x y => exact sim_pick hp hs
  | alloc t => exact sim_alloc hp hs hpn
  | box t x => exact sim_box hp hs hpn
  | build t parts => exact sim_build hp hs
  | buildSlice t n parts => exact sim_buildSlice hp hs hpn
  | load t x => exact sim_load hp hs hT
  | store t x y => exact sim_store hp hs hT
  | nilCheck x => exact sim_nilCheck hp hs
  | fieldAddr s x f => exact sim_fieldAddr hp hs
  | field s x f => exact sim_field hp hs
  | indexAddr t x i => exact sim_indexAddr hp hs
  | slice t x lo hi mx =>
    cases mx with
    | none => exact sim_slice hp hs hT
    | some _ => cases hs
  | binOp op t x y t' => exact sim_bin hp hs
  | unOp op t x => exact sim_un hp hs
  | extract t i => exact sim_extract hp hs
  | convert s d x => exact sim_pure (fun _ _ hh => by cases hh) hp hs
  | index t x i => exact sim_pure (fun _ _ hh => by cases hh) hp hs
  | call c =>
    obtain ⟨callee, args, ts⟩ := c
    cases callee with
    | value f => exact sim_call hp hs
    | invoke _ _ => cases hs
    | builtin b =>
      cases b with
      | len =>
        obtain ⟨l⟩ := args
        obtain ⟨k⟩ := ts
        match l, k, hp, hs with
        | [x], [t], hp, hs => exact sim_len hp hs
        | [], _, _, hs => cases hs
        | _ :: _ :: _, _, _, hs => cases hs
        | [_], [], _, hs => cases hs
        | [_], _ :: _ :: _, _, hs => cases hs
      | append =>
        obtain ⟨l⟩ := args
        obtain ⟨k⟩ := ts
        match l, k, hp, hs with
        | [s, x], [t, t'], hp, hs => exact sim_append hp hs hT hpn
        | [], _, _, hs => cases hs
        | [_], _, _, hs => cases hs
        | _ :: _ :: _ :: _, _, _, hs => cases hs
        | [_, _], [], _, hs => cases hs
        | [_, _], [_], _, hs => cases hs
        | [_, _], _ :: _ :: _ :: _, _, hs => cases hs
      | max => exact sim_pure (fun _ _ hh => by cases hh) hp hs
      | min => exact sim_pure (fun _ _ hh => by cases hh) hp hs
      | _ => cases hs
  | _ => cases hs
end
end Go.Am
