/- Code whole, in both machines. -/
import Derived.Test.YtlnjhllfacmkoaaGreatAm20
set_option linter.unusedVariables false
set_option linter.unusedSimpArgs false
set_option linter.unusedSectionVars false
namespace Go.Am
open Go.RowKit

def okCode (ns : Nat) (D : Draws) : Code → Bool
  | .seq a b => okCode ns D a && okCode ns D b
  | .cond c t f => okSlot ns c && okCode ns D t && okCode ns D f
  | .block _ b | .loop b | .scope b => okCode ns D b
  | .region id os draw => os.toList.all (okOper ns os.toList) && (!draw || okDraw os (D id))
  | _ => true
def okRes (ns : Nat) : ResultVar → Bool
  | .tmp t => Nat.blt t ns
  | .cell a _ => Nat.blt a ns
def okFunc (D : Draws) (fn : Func) : Bool := match fn.body with
  | some c => okCode fn.ntmps D c && fn.results.toList.all (okRes fn.ntmps)
  | none => true
def okProg (P : Program) (H : FuncId → Draws) : Bool := P.follows .mixedOrders && (List.range P.funcs.size).all fun f => match P.funcs[f]? with
  | some fn => okFunc (H f) fn
  | none => true
def toExit : AExit → Exit
  | .normal => .normal
  | .exit id => .exit id
  | .ret => .ret
section
variable {P : Program} {cf : CallF} {B : Nat} {w0 : World} {ns : Nat} {D : Draws}
theorem noGoto_to {Q : Exit → Act → World → Prop} {x : AExit} {a : Act} {w : World} (h : Q (toExit x) a w) : Exit.noGoto Q (toExit x) a w := by
  cases x <;> exact h
def Post (B : Nat) (w0 : World) (m : Mp) (e : Env) (h : Heap) (a : Act) (w : World) (x : AExit) (e' : Env) (h' : Heap) (Q : Exit → Act → World → Prop) : Prop :=
  ∀ m' a' w', St B w0 m' e' h' a' w' → Evo m m' h h' w w' → a'.defers = a.defers → a'.tmps.size = a.tmps.size → Q (toExit x) a' w'
theorem exec_loop_sim (hmix : P.follows .mixedOrders = true) (hcw : CfWf cf) (hcf : CfOk P cf B w0) : ∀ (n : Nat),
    (∀ (c : Code) {e e' : Env} {h h' : Heap} {x : AExit}, exec P D cf n c e h = some (x, e', h') → okCode ns D c = true → ∀ (m : Mp) (a : Act) (w : World) (Q : Exit → Act → World → Prop), St B w0 m e h a w → ns ≤ a.tmps.size → Post B w0 m e h a w x e' h' Q → c.wp P Q a w) ∧
    (∀ (c : Code) {e e' : Env} {h h' : Heap} {x : AExit}, exec P D cf n (.loop c) e h = some (x, e', h') → okCode ns D c = true → ∀ (m : Mp) (a : Act) (w : World) (Q : Exit → Act → World → Prop), St B w0 m e h a w → ns ≤ a.tmps.size → Post B w0 m e h a w x e' h' Q → Code.rounds P c Q n a w) := by
  intro n
  induction n with
  | zero => exact ⟨(fun c e e' h h' x hr => by cases hr), (fun c e e' h h' x hr => by cases hr)⟩
  | succ n ih =>
    obtain ⟨ih1, ih2⟩ := ih
    have loop : ∀ (c : Code) {e e' : Env} {h h' : Heap} {x : AExit}, exec P D cf (n + 1) (.loop c) e h = some (x, e', h') → okCode ns D c = true → ∀ (m : Mp) (a : Act) (w : World) (Q : Exit → Act → World → Prop), St B w0 m e h a w → ns ≤ a.tmps.size → Post B w0 m e h a w x e' h' Q → Code.rounds P c Q (n + 1) a w := by
      intro c e e' h h' x hr hok m a w Q hs hn hQ
      rw [rounds_succ]
      rcases seqK_inv hr with ⟨e1, h1, k1, k2⟩ | ⟨hx, k1⟩
      · refine ih1 c k1 hok m a w _ hs hn fun m1 a1 w1 hs1 ev1 hd1 hz1 => ?_
        exact ih2 c k2 hok m1 a1 w1 Q hs1 (by rw [hz1]; exact hn) fun m' a' w' hs' ev' hd' hz' => hQ m' a' w' hs' (ev1.trans ev') (hd'.trans hd1) (hz'.trans hz1)
      · refine ih1 c k1 hok m a w _ hs hn fun m1 a1 w1 hs1 ev1 hd1 hz1 => ?_
        have := hQ m1 a1 w1 hs1 ev1 hd1 hz1
        cases x with
        | normal => exact absurd rfl hx
        | exit id => exact this
        | ret => exact this
    refine ⟨?_, loop⟩
    intro c e e' h h' x hr hok m a w Q hs hn hQ
    cases c with
    | skip => cases hr; exact wp_skip (hQ m a w hs (Evo.refl hs.wf) rfl rfl)
    | label l => cases hr; exact wp_label (hQ m a w hs (Evo.refl hs.wf) rfl rfl)
    | ret => cases hr; exact wp_ret (hQ m a w hs (Evo.refl hs.wf) rfl rfl)
    | exit id => cases hr; exact wp_exit (hQ m a w hs (Evo.refl hs.wf) rfl rfl)
    | seq c d =>
      simp only [okCode, Bool.and_eq_true] at hok
      refine wp_seq ?_
      rcases seqK_inv hr with ⟨e1, h1, k1, k2⟩ | ⟨hx, k1⟩
      · refine ih1 c k1 hok.1 m a w _ hs hn fun m1 a1 w1 hs1 ev1 hd1 hz1 => ?_
        exact ih1 d k2 hok.2 m1 a1 w1 Q hs1 (by rw [hz1]; exact hn) fun m' a' w' hs' ev' hd' hz' => hQ m' a' w' hs' (ev1.trans ev') (hd'.trans hd1) (hz'.trans hz1)
      · refine ih1 c k1 hok.1 m a w _ hs hn fun m1 a1 w1 hs1 ev1 hd1 hz1 => ?_
        have := hQ m1 a1 w1 hs1 ev1 hd1 hz1
        cases x with
        | normal => exact absurd rfl hx
        | exit id => exact this
        | ret => exact this
    | cond c t f =>
      simp only [okCode, Bool.and_eq_true] at hok
      obtain ⟨b, hb, k⟩ := condK_inv hr
      have hc := ev_rel hs.env hok.1.1 hn
      rw [hb] at hc
      refine wp_cond hc.bool ?_
      cases b
      · exact ih1 f k hok.2 m a w Q hs hn hQ
      · exact ih1 t k hok.1.2 m a w Q hs hn hQ
    | block id b =>
      obtain ⟨y, k, hy⟩ := blockK_inv hr
      refine wp_block (ih1 b k hok m a w _ hs hn fun m1 a1 w1 hs1 ev1 hd1 hz1 => ?_)
      have := hQ m1 a1 w1 hs1 ev1 hd1 hz1
      rcases hy with ⟨rfl, rfl⟩ | ⟨hne, rfl⟩
      · show (if id = id then Q .normal a1 w1 else Q (.exit id) a1 w1)
        rw [if_pos rfl]; exact this
      · cases x with
        | normal => exact this
        | ret => exact this
        | exit id' =>
          show (if id' = id then Q .normal a1 w1 else Q (.exit id') a1 w1)
          rw [if_neg (fun hh => hne (by rw [hh]))]; exact this
    | loop b => exact wp_loop_rounds (n + 1) (loop b hr hok m a w Q hs hn hQ)
    | scope b => exact wp_scope_straight (ih1 b hr hok m a w _ hs hn fun m1 a1 w1 hs1 ev1 hd1 hz1 => noGoto_to (hQ m1 a1 w1 hs1 ev1 hd1 hz1))
    | region id os draw =>
      simp only [okCode, Bool.and_eq_true] at hok
      cases draw
      · obtain ⟨rfl, k⟩ := regK_inv hr
        exact wp_region_list (ops_sim hcw hcf os.toList e h e' h' k hok.1 m a w hs hn hQ)
      · obtain ⟨rfl, fs, k, hd⟩ := drawK_inv hr
        exact draw_sim hmix hcw hcf k hd hok.1 (by simpa using hok.2) hs hn hQ
    | rangeFunc _ _ _ _ => cases hr
    | goto _ => cases hr
    | refuse _ => cases hr

/-! ### Results -/
def resOf (tmps : Array Value) : ResultVar → Sem Value := fun
    | .tmp t => pure (tmps.getD t undef)
    | .cell a t => do loadVar t (← asAddr (tmps.getD a undef))
theorem run_asAddr (a : Addr) (w : World) : (asAddr (.pointer (some a))).run P w = .ok a w := rfl
theorem result_run {m : Mp} {e : Env} {h : Heap} {a : Act} {w : World} (hs : St B w0 m e h a w) (hn : ns ≤ a.tmps.size) {r : ResultVar} (hr : okRes ns r = true) {v : Value} (hv : resultA P e h r = some v) : ∃ v', (resOf a.tmps r).run P w = .ok v' w ∧ VRel m v v' := by
  cases r with
  | tmp t =>
    cases hv
    exact ⟨_, rfl, hs.env t (Nat.lt_of_lt_of_le (lt_of_blt hr) hn)⟩
  | cell x t =>
    have hx := hs.env x (Nat.lt_of_lt_of_le (lt_of_blt hr) hn)
    simp only [resultA] at hv
    unfold resCell at hv
    split at hv
    · rename_i b o hp
      have he := hx.asPtr hp
      split at hv
      · rename_i gg n hg hz
        obtain ⟨blk, hblk, hv⟩ := Option.bind_eq_some_iff.1 hv
        obtain ⟨v', h1, h2⟩ := run_loadVar hg hz (hs.heap.blk b blk hblk) hv
        refine ⟨v', ?_, h2⟩
        have hu : resOf a.tmps (.cell x t) = (do loadVar t (← asAddr (a.tmps.getD x undef))) := rfl
        rw [hu, he]
        simp [run_asAddr, h1]
      · cases hv
    · cases hv
theorem results_go {m : Mp} {e : Env} {h : Heap} {a : Act} {w : World} (hs : St B w0 m e h a w) (hn : ns ≤ a.tmps.size) : ∀ {rs : List ResultVar} {vs : List Value}, rs.all (okRes ns) = true → resultsA P e h rs = some vs → ∃ vs', (rs.mapM (resOf a.tmps)).run P w = .ok vs' w ∧ LRel m vs vs'
  | [], vs, _, hr => by cases hr; exact ⟨[], rfl, .nil⟩
  | r :: rs, vs, hk, hr => by
    simp only [List.all_cons, Bool.and_eq_true] at hk
    simp only [resultsA] at hr
    obtain ⟨v, hv, hr⟩ := Option.bind_eq_some_iff.1 hr
    obtain ⟨us, hu, rfl⟩ := Option.map_eq_some_iff.1 hr
    obtain ⟨v', h1, h2⟩ := result_run hs hn hk.1 hv
    obtain ⟨us', h3, h4⟩ := results_go hs hn hk.2 hu
    exact ⟨v' :: us', by simp [List.mapM_cons, h1, h3], LRel.cons h2 h4⟩
theorem pack_eq (vs : Array Value) : (if h : vs.size = 1 then vs[0] else .tuple vs) = packR vs.toList := by
  obtain ⟨l⟩ := vs
  match l with
  | [] => rfl
  | [v] => rfl
  | v :: u :: r => simp [packR]
theorem LRel.pack {m : Mp} {vs vs' : List Value} (h : LRel m vs vs') : VRel m (packR vs) (packR vs') := by
  match vs, vs', h with
  | [], [], h => exact .mk_tuple (by simpa using h)
  | [v], [v'], h => exact h.2 0 v v' rfl rfl
  | v :: u :: r, v' :: u' :: r', h => exact .mk_tuple (by simpa using h)
  | [], _ :: _, h => cases h.1
  | [_], [], h => cases h.1
  | [_], _ :: _ :: _, h => cases h.1
  | _ :: _ :: _, [], h => cases h.1
  | _ :: _ :: _, [_], h => cases h.1
theorem results_run {fn : Func} {m : Mp} {e : Env} {h : Heap} {a : Act} {w : World} (hs : St B w0 m e h a w) (hn : ns ≤ a.tmps.size) {vs : List Value} (hk : fn.results.toList.all (okRes ns) = true) (hr : resultsA P e h fn.results.toList = some vs) :
    ∃ vs', (results fn a.tmps).run P w = .ok (packR vs') w ∧ LRel m vs vs' := by
  obtain ⟨vs', h1, h2⟩ := results_go hs hn hk hr
  refine ⟨vs', ?_, h2⟩
  have he : results fn a.tmps = (do let vs ← fn.results.mapM (resOf a.tmps); pure (if h : vs.size = 1 then vs[0] else .tuple vs)) := rfl
  rw [he, Array.mapM_eq_mapM_toList]
  simp only [pack_eq]
  simp [h1]
end
end Go.Am
