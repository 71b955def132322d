/- What the operations do in both machines: arithmetic, comparisons, parts, cuts. -/
import Derived.Test.YtlblocieleildaaAm5
import Derived.IntWalk
set_option linter.unusedVariables false
set_option linter.unusedSimpArgs false
namespace Go.Am
open Go.RowKit

theorem wrap_nat (n : Nat) (h : n ≤ 9223372036854775807) : IntKind.i64.wrap (Int.ofNat n) = Int.ofNat n := IntWalk.i64_in _ (by have e : (Int.ofNat n) = (n : Int) := rfl; rw [e]; omega)
theorem wrap_neg (n : Nat) (h : n ≤ 9223372036854775807) : IntKind.i64.wrap (Int.negSucc n) = Int.negSucc n := by
  have e : (Int.negSucc n) = -(n : Int) - 1 := by omega
  rw [e]
  exact IntWalk.i64_in _ (by omega)
theorem cond_ble {α : Type} {n c : Nat} {x y : α} (h : n ≤ c → x = y) : (bif Nat.ble n c then x else y) = y := by
  cases hh : Nat.ble n c
  · rfl
  · exact h (Nat.le_of_ble_eq_true hh)
theorem wrapF_eq (k : IntKind) (n : Int) : wrapF k n = k.wrap n := by
  cases k <;> try rfl
  cases n with
  | ofNat mm => exact cond_ble fun h => (wrap_nat mm h).symm
  | negSucc mm => exact cond_ble fun h => (wrap_neg mm h).symm
theorem equal_step {P : Program} {t : TypeId} {u v : Value} {b : Bool} {d : TypeDesc} (hd : P.underlying t = some d) (hk : nilEq (some d) u v = some b) (w : World) : (Op.equal t u v).run P w = .ok b w := by
  have e : Op.equal t u v = Op.equalIn (9999 + 1) t u v := rfl
  rw [e, Op.equalIn]
  simp only [Sem.run_bind, run_underlying hd, Result.andThen_ok]
  unfold nilEq at hk
  split at hk
  all_goals first
    | (cases hk; done)
    | (rename_i e1 <;> cases e1 <;> cases hk <;> rfl)
    | skip
  all_goals (cases hk)
  all_goals rfl
section
variable {P : Program} {dst : Option Tmp} {ty : TypeId} {pos : String} {af : Array Edge} {g : Option (Nat × Bool)} {e : Env} {a : Act} {B : Nat} {m : Mp} {h : Heap} {w : World} {r : Res} {p : Nat → Prop}

theorem abin_flat {op : BinOp} {k : IntKind} {x y : Int} {v : Value} (hv : abin op k x y = some v) : flat v = true := by
  cases op <;> simp only [abin] at hv <;> first
    | (cases hv; rfl)
    | (cases hv; done)
    | (split at hv <;> cases hv; rfl)
theorem run_abin {op : BinOp} {k : IntKind} {x y : Int} {v : Value} {t : TypeId} (hv : abin op k x y = some v) : (binOp op t (.int k x) (.int k y)).run P w = .ok v w := by
  cases op <;> simp only [abin] at hv <;> first
    | (cases hv; simp [binOp, Op.intArith, Op.intCmp, wrapF_eq]; done)
    | (cases hv; done)
    | (split at hv
       · cases hv
       · rename_i h0
         cases hv
         simp [binOp, Op.intDiv, h0, wrapF_eq])
theorem sim_bin {op : BinOp} {t t' : TypeId} {x y : Operand} (hp : Pre P ⟨dst, .binOp op t x y t', ty, pos, af, g⟩ e a B m h w p) (hs : binS P ⟨dst, .binOp op t x y t', ty, pos, af, g⟩ op t x y e h = some r) : Sim P ⟨dst, .binOp op t x y t', ty, pos, af, g⟩ a B m h w r := by
  have hx := hp.rel x (by simp [Op.operands])
  have hy := hp.rel y (by simp [Op.operands])
  have hrun : (execOp a.eval ⟨dst, .binOp op t x y t', ty, pos, af, g⟩).run P w = (do pure (.value (← (do eqGuard op t x y (a.eval x) (a.eval y); binOp op t (a.eval x) (a.eval y)))) : Sem Next).run P w := rfl
  unfold binS orElse at hs
  split at hs
  · rename_i r' hb
    cases hs
    unfold binI at hb
    split at hb
    · rename_i k i k' j h1 h2
      cases hk : decide (k = k')
      · rw [hk] at hb; cases hb
      · rw [hk] at hb
        have hk := of_decide_eq_true hk
        subst hk
        obtain ⟨v, hv, rfl⟩ := Option.map_eq_some_iff.1 hb
        have ex := hx.asIK h1
        have ey := hy.asIK h2
        refine .still (v' := v) (hrun.trans (run_v ?_)) (VRel.flat (abin_flat hv))
        rw [ex, ey]
        have hg : eqGuard op t x y (.int k i) (.int k j) = pure () := by cases op <;> rfl
        rw [hg]
        simpa using run_abin hv
    · cases hb
  · unfold binV at hs
    cases hf : flat (ev e x) && flat (ev e y)
    · rw [hf] at hs
      simp only [cond_false] at hs
      unfold nilV at hs
      split at hs
      · rename_i b hb
        have key : ∀ u v, VRel m (ev e x) u → VRel m (ev e y) v → eqGuard op t x y u v = pure () ∧ nilEq (P.underlying t) u v = some b ∧ (op = .eql → binOp op t u v = (do pure (.bool (← Op.equal t u v)))) ∧ (op = .neq → binOp op t u v = (do pure (.bool (!(← Op.equal t u v))))) := by
          intro u v hxu hyv
          revert hb hf hxu hyv
          generalize ev e x = X
          generalize ev e y = Y
          generalize P.underlying t = U
          intro hf hb hxu hyv
          unfold nilEq at hb
          split at hb <;> cases hb
          all_goals
            (cases hxu <;> cases hyv <;> first
               | (simp [flat, flat1, flatCell] at hf; done)
               | (rename_i q _; simp [flatCell] at q; done)
               | (rename_i q; simp [flatCell] at q; done)
               | (refine ⟨by cases op <;> rfl, rfl, by rintro rfl; rfl, by rintro rfl; rfl⟩))
        obtain ⟨k1, kk, k3, k4⟩ := key _ _ hx hy
        obtain ⟨d, hd⟩ : ∃ d, P.underlying t = some d := by
          cases hd : P.underlying t with
          | none => rw [hd] at kk; unfold nilEq at kk; cases kk
          | some d => exact ⟨d, rfl⟩
        have k2 := fun w' => equal_step (w := w') hd (by rw [← hd]; exact kk)
        split at hs
        · cases hs
          refine .still (v' := .bool b) (hrun.trans (run_v ?_)) (VRel.flat rfl)
          rw [k1, k3 rfl]
          simp [k2]
        · cases hs
          refine .still (v' := .bool !b) (hrun.trans (run_v ?_)) (VRel.flat rfl)
          rw [k1, k4 rfl]
          simp [k2]
        · cases hs
      · cases hs
    · rw [hf] at hs
      rw [Bool.and_eq_true] at hf
      refine sim_ofPure (fun _ _ hh => by cases hh) hp (fun z hz => ?_) hs
      simp [Op.operands] at hz
      rcases hz with rfl | rfl
      · exact hf.1
      · exact hf.2
theorem sim_un {op : UnOp} {t : TypeId} {x : Operand} (hp : Pre P ⟨dst, .unOp op t x, ty, pos, af, g⟩ e a B m h w p) (hs : unS P ⟨dst, .unOp op t x, ty, pos, af, g⟩ op x e h = some r) : Sim P ⟨dst, .unOp op t x, ty, pos, af, g⟩ a B m h w r := by
  have hx := hp.rel x (by simp [Op.operands])
  have hrun : (execOp a.eval ⟨dst, .unOp op t x, ty, pos, af, g⟩).run P w = (do pure (.value (← Op.unary op (a.eval x))) : Sem Next).run P w := rfl
  unfold unS unV at hs
  split at hs
  · rename_i b he
    rw [he] at hx
    have hx := hx.bool
    split at hs
    · cases hs
      refine .still (v' := .bool !b) (hrun.trans (run_v ?_)) (VRel.flat rfl)
      rw [hx]; rfl
    · cases hs
  · rename_i k n he
    have hfl : flat (ev e x) = true := by rw [he]; rfl
    split at hs
    · cases hs
      rw [he] at hx
      have hx := VRel.of_flatCell rfl hx
      refine .still (v' := .int k (wrapF k (0 - n))) (hrun.trans (run_v ?_)) (VRel.flat rfl)
      rw [hx, wrapF_eq]; rfl
    · exact sim_ofPure (fun _ _ hh => by cases hh) hp (fun z hz => by simp [Op.operands] at hz; subst hz; exact hfl) hs
  · rename_i v _ _
    cases hf : flat (ev e x)
    · rw [hf] at hs; cases hs
    · rw [hf] at hs
      exact sim_ofPure (fun _ _ hh => by cases hh) hp (fun z hz => by simp [Op.operands] at hz; subst hz; exact hf) hs
theorem extract_toList {cs : Array Value} {o n : Nat} : (cs.extract o (o + n)).toList = (cs.toList.drop o).take n := by
  simp [Array.toList_extract, List.extract_eq_take_drop]
theorem sim_field {s : TypeId} {x : Operand} {f : Nat} (hp : Pre P ⟨dst, .field s x f, ty, pos, af, g⟩ e a B m h w p) (hs : fieldS P s x f e h = some r) : Sim P ⟨dst, .field s x f, ty, pos, af, g⟩ a B m h w r := by
  have hx := hp.rel x (by simp [Op.operands])
  have hrun : (execOp a.eval ⟨dst, .field s x f, ty, pos, af, g⟩).run P w = (do pure (.value (← Instr.field s (a.eval x) f)) : Sem Next).run P w := rfl
  unfold fieldS at hs
  cases hu : P.underlying s with
  | none => rw [hu] at hs; cases hs
  | some d =>
    rw [hu] at hs
    cases d with
    | struct fields =>
      dsimp only at hs
      cases hf : fields[f]? with
      | none => rw [hf] at hs; cases hs
      | some fd =>
        rw [hf] at hs
        dsimp only at hs
        cases hg : aggT P fd.type with
        | none => rw [hg] at hs; cases hs
        | some gg =>
          cases hn : szOf P fd.type with
          | none => rw [hg, hn] at hs; cases hs
          | some n =>
            rw [hg, hn] at hs
            dsimp only at hs
            unfold fieldOf at hs
            split at hs
            · rename_i cs he
              rw [he] at hx
              obtain ⟨ys, hy, hl⟩ := hx.of_agg
              rw [hy] at hrun
              obtain ⟨v, hv, rfl⟩ := Option.map_eq_some_iff.1 hs
              cases gg with
              | true =>
                simp only [cond_true] at hv
                obtain ⟨l, hl1, rfl⟩ := Option.map_eq_some_iff.1 hv
                obtain ⟨hle, rfl⟩ := cut_some hl1
                refine .still (v' := .agg (ys.extract fd.offset (fd.offset + n))) (hrun.trans (run_v ?_)) (.mk_agg ?_)
                · simp [Instr.field, run_underlying hu, hf, asAgg, part, run_isAgg hg, run_szOf hn]
                · rw [extract_toList, List.toList_toArray]
                  exact (hl.drop _).take _
              | false =>
                simp only [cond_false] at hv
                obtain ⟨v', hv', hr⟩ := hl.get (i := fd.offset) (by simpa using hv)
                refine .still (v' := v') (hrun.trans (run_v ?_)) hr
                simp at hv'
                simp [Instr.field, run_underlying hu, hf, asAgg, part, run_isAgg hg, hv']
            · cases hs
    | _ => cases hs
end
end Go.Am
