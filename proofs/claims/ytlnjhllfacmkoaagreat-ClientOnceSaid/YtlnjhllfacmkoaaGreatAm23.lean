/- The abstract machine without a measure of how long it may run. -/
import Derived.Test.YtlnjhllfacmkoaaGreatAm22
set_option linter.unusedVariables false
set_option linter.unusedSimpArgs false
set_option linter.unusedSectionVars false
namespace Go.Am
open Go.RowKit

def LeF (cf cf' : CallF) : Prop := ∀ f args h r, cf f args h = some r → cf' f args h = some r
theorem opt_ext {α : Type} {a b : Option α} (h : ∀ r, a = some r ↔ b = some r) : a = b := by
  cases a with
  | none =>
    cases b with
    | none => rfl
    | some y => exact absurd ((h y).2 rfl) (by simp)
  | some x => exact ((h x).1 rfl).symm
section
variable {P : Program} {H : FuncId → Draws} {D : Draws} {os : List Oper} {cf cf' : CallF}
theorem next_mono (hl : LeF cf cf') {dst : Option Tmp} {k k' : Env → Heap → Option (Env × Heap)} (hk : ∀ e h r, k e h = some r → k' e h = some r) {e : Env} {h : Heap} {o : Option Res} {r : Env × Heap} (hr : next cf dst k e h o = some r) : next cf' dst k' e h o = some r := by
  unfold next at hr ⊢
  split at hr
  · exact hk _ _ _ hr
  · exact hk _ _ _ hr
  · rename_i f args
    cases hc : cf f args h with
    | none => rw [hc] at hr; cases hr
    | some vhq =>
      obtain ⟨v, h', q⟩ := vhq
      rw [hc] at hr
      rw [hl f args h _ hc]
      exact hk _ _ _ hr
  · cases hr
theorem ops_mono (hl : LeF cf cf') : ∀ (l : List Oper) (e : Env) (h : Heap) (r : Env × Heap), ops P cf os l e h = some r → ops P cf' os l e h = some r
  | [], _, _, _, hr => hr
  | o :: l, e, h, r, hr => by
    unfold ops op1 at hr ⊢
    split at hr
    · exact next_mono hl (ops_mono hl l) hr
    · exact ops_mono hl l _ _ _ hr
    · cases hr
theorem opF_mono (hl : LeF cf cf') {o : Oper} {e : Env} {h : Heap} {r : Env × Heap × Foot} (hr : opF P cf os o e h = some r) : opF P cf' os o e h = some r := by
  unfold opF at hr ⊢
  split at hr
  · split at hr
    · exact hr
    · exact hr
    · rename_i f args hs
      cases hc : cf f args h with
      | none => rw [hc] at hr; cases hr
      | some vhq =>
        obtain ⟨v, h', q⟩ := vhq
        rw [hc] at hr
        rw [hl f args h _ hc]
        exact hr
    · cases hr
  · exact hr
  · cases hr
theorem opsF_mono (hl : LeF cf cf') : ∀ (l : List Oper) (e : Env) (h : Heap) (r : Env × Heap × List Foot), opsF P cf os l e h = some r → opsF P cf' os l e h = some r
  | [], _, _, _, hr => hr
  | o :: l, e, h, r, hr => by
    unfold opsF at hr ⊢
    cases h1 : opF P cf os o e h with
    | none => rw [h1] at hr; cases hr
    | some r1 =>
      obtain ⟨e1, hh1, f1⟩ := r1
      rw [h1] at hr
      rw [opF_mono hl h1]
      dsimp only at hr ⊢
      cases h2 : opsF P cf os l e1 hh1 with
      | none => rw [h2] at hr; cases hr
      | some r2 =>
        rw [h2] at hr
        rw [opsF_mono hl l _ _ _ h2]
        exact hr
theorem exec_mono (hl : LeF cf cf') : ∀ (n n' : Nat), n ≤ n' → ∀ (c : Code) (e : Env) (h : Heap) (r : AExit × Env × Heap), exec P D cf n c e h = some r → exec P D cf' n' c e h = some r := by
  intro n
  induction n with
  | zero => intro n' _ c e h r hr; cases hr
  | succ n ih =>
    intro n' hn c e h r hr
    obtain ⟨k, rfl⟩ : ∃ k, n' = k + 1 := ⟨n' - 1, by omega⟩
    have hk : n ≤ k := by omega
    have seq : ∀ (a b : Code), seqK (exec P D cf n b) (exec P D cf n a e h) = some r → seqK (exec P D cf' k b) (exec P D cf' k a e h) = some r := by
      intro a b hr
      obtain ⟨x, e', h'⟩ := r
      rcases seqK_inv hr with ⟨e1, h1, k1, k2⟩ | ⟨hx, k1⟩
      · rw [ih k hk a _ _ _ k1]; exact ih k hk b _ _ _ k2
      · rw [ih k hk a _ _ _ k1]
        cases x with
        | normal => exact absurd rfl hx
        | exit id => rfl
        | ret => rfl
    cases c with
    | skip => exact hr
    | label l => exact hr
    | ret => exact hr
    | exit id => exact hr
    | seq a b => exact seq a b hr
    | loop b => exact seq b (.loop b) hr
    | cond c t f =>
      obtain ⟨b, hb, hr⟩ := condK_inv hr
      show condK (exec P D cf' k t) (exec P D cf' k f) e h (ev e c) = some r
      rw [hb]
      cases b
      · exact ih k hk f _ _ _ hr
      · exact ih k hk t _ _ _ hr
    | block id b =>
      have hr : blockK id (exec P D cf n b e h) = some r := hr
      show blockK id (exec P D cf' k b e h) = some r
      cases hx : exec P D cf n b e h with
      | none => rw [hx] at hr; cases hr
      | some y => rw [hx] at hr; rw [ih k hk b _ _ _ hx]; exact hr
    | scope b => exact ih k hk b _ _ _ hr
    | region id os draw =>
      cases draw
      · have hr : regK (ops P cf os.toList os.toList e h) = some r := hr
        show regK (ops P cf' os.toList os.toList e h) = some r
        cases hx : ops P cf os.toList os.toList e h with
        | none => rw [hx] at hr; cases hr
        | some y => rw [hx] at hr; rw [ops_mono hl _ _ _ _ hx]; exact hr
      · have hr : drawK (D id) (opsF P cf os.toList os.toList e h) = some r := hr
        show drawK (D id) (opsF P cf' os.toList os.toList e h) = some r
        cases hx : opsF P cf os.toList os.toList e h with
        | none => rw [hx] at hr; cases hr
        | some y => rw [hx] at hr; rw [opsF_mono hl _ _ _ _ hx]; exact hr
    | rangeFunc _ _ _ _ => cases hr
    | goto _ => cases hr
    | refuse _ => cases hr
theorem doneK_mono {fn : Func} {h : Heap} {o o' : Out} (ho : ∀ r, o = some r → o' = some r) {r : Value × Heap × Bool} (hr : doneK P fn h o = some r) : doneK P fn h o' = some r := by
  cases o with
  | none => cases hr
  | some x => rw [ho x rfl]; exact hr
theorem call_mono : ∀ (n n' : Nat), n ≤ n' → LeF (call P H n) (call P H n')
  | 0, _, _ => fun f args h r hr => by cases hr
  | n + 1, n', hn => fun f args h r hr => by
    obtain ⟨k, rfl⟩ : ∃ k, n' = k + 1 := ⟨n' - 1, by omega⟩
    obtain ⟨fn, c, h1, h2, h3⟩ := call_inv hr
    unfold call
    simp only [h1, h2]
    exact doneK_mono (fun r hr => exec_mono (call_mono n k (by omega)) n k (by omega) c _ _ r hr) h3

/-! ### Without a measure -/
noncomputable section
open Classical in
def callW (P : Program) (H : FuncId → Draws) : CallF := fun f args h => if q : ∃ r n, call P H n f args h = some r then some q.choose else none
open Classical in
def execW (P : Program) (D : Draws) (cf : CallF) (c : Code) (e : Env) (h : Heap) : Out := if q : ∃ r n, exec P D cf n c e h = some r then some q.choose else none
end
theorem callW_iff {f : FuncId} {args : List Value} {h : Heap} {r : Value × Heap × Bool} : callW P H f args h = some r ↔ ∃ n, call P H n f args h = some r := by
  unfold callW
  split
  · rename_i q
    have hs := q.choose_spec
    generalize q.choose = z at hs
    obtain ⟨n, hn⟩ := hs
    constructor
    · intro hh; cases hh; exact ⟨n, hn⟩
    · rintro ⟨k, hk⟩
      have a := call_mono n (max n k) (Nat.le_max_left _ _) _ _ _ _ hn
      have b := call_mono k (max n k) (Nat.le_max_right _ _) _ _ _ _ hk
      rw [a] at b; exact b
  · rename_i q
    constructor
    · intro hh; cases hh
    · rintro ⟨k, hk⟩; exact absurd ⟨r, k, hk⟩ q
theorem up {n k : Nat} (hn : n ≤ k) {c : Code} {e : Env} {h : Heap} {r : AExit × Env × Heap} (hr : exec P D cf n c e h = some r) : exec P D cf k c e h = some r := exec_mono (fun _ _ _ _ q => q) n k hn _ _ _ _ hr
theorem execW_iff {c : Code} {e : Env} {h : Heap} {r : AExit × Env × Heap} : execW P D cf c e h = some r ↔ ∃ n, exec P D cf n c e h = some r := by
  unfold execW
  split
  · rename_i q
    have hs := q.choose_spec
    generalize q.choose = z at hs
    obtain ⟨n, hn⟩ := hs
    constructor
    · intro hh; cases hh; exact ⟨n, hn⟩
    · rintro ⟨k, hk⟩
      have a := up (Nat.le_max_left n k) hn
      have b := up (Nat.le_max_right n k) hk
      rw [a] at b; exact b
  · rename_i q
    constructor
    · intro hh; cases hh
    · rintro ⟨k, hk⟩; exact absurd ⟨r, k, hk⟩ q
theorem call_le (n : Nat) : LeF (call P H n) (callW P H) := fun f args h r hr => callW_iff.2 ⟨n, hr⟩
theorem up1 {n : Nat} {c : Code} {e : Env} {h : Heap} {r : AExit × Env × Heap} (hr : exec P D cf (n + 1) c e h = some r) : execW P D cf c e h = some r := execW_iff.2 ⟨n + 1, hr⟩
theorem down1 {c : Code} {e : Env} {h : Heap} {r : AExit × Env × Heap} (hr : execW P D cf c e h = some r) : ∃ n, exec P D cf (n + 1) c e h = some r := by
  obtain ⟨n, hn⟩ := execW_iff.1 hr
  exact ⟨n, up (Nat.le_succ n) hn⟩
theorem ops_lim : ∀ (l : List Oper) (e : Env) (h : Heap) (r : Env × Heap), ops P (callW P H) os l e h = some r ↔ ∃ n, ops P (call P H n) os l e h = some r := by
  intro l e h r
  refine ⟨?_, fun ⟨n, hn⟩ => ops_mono (call_le n) _ _ _ _ hn⟩
  induction l generalizing e h with
  | nil => intro hr; exact ⟨0, hr⟩
  | cons o l ih =>
    intro hr
    unfold ops op1 at hr
    split at hr
    · rename_i hw
      unfold next at hr
      split at hr
      · rename_i v rd f hs
        obtain ⟨n, hn⟩ := ih _ _ hr
        refine ⟨n, ?_⟩
        unfold ops op1; rw [hw]; dsimp only; rw [hs]; exact hn
      · rename_i rd f hs
        obtain ⟨n, hn⟩ := ih _ _ hr
        refine ⟨n, ?_⟩
        unfold ops op1; rw [hw]; dsimp only; rw [hs]; exact hn
      · rename_i f args hs
        cases hc : callW P H f args h with
        | none => rw [hc] at hr; cases hr
        | some vhq =>
          obtain ⟨v, h', q⟩ := vhq
          rw [hc] at hr
          obtain ⟨n, hn⟩ := ih _ _ hr
          obtain ⟨k, hk⟩ := callW_iff.1 hc
          refine ⟨max n k, ?_⟩
          unfold ops op1; rw [hw]; dsimp only; rw [hs]
          show (match call P H (max n k) f args h with | some (v, h', _) => ops P (call P H (max n k)) os l (e.put o.dst v) h' | none => none) = some r
          rw [call_mono k (max n k) (Nat.le_max_right _ _) _ _ _ _ hk]
          exact ops_mono (call_mono n (max n k) (Nat.le_max_left _ _)) _ _ _ _ hn
      · cases hr
    · rename_i hw
      obtain ⟨n, hn⟩ := ih _ _ hr
      refine ⟨n, ?_⟩
      unfold ops op1; rw [hw]; exact hn
    · cases hr
theorem opF_lim {o : Oper} {e : Env} {h : Heap} {r : Env × Heap × Foot} (hr : opF P (callW P H) os o e h = some r) : ∃ n, opF P (call P H n) os o e h = some r := by
  unfold opF at hr
  split at hr
  · rename_i hw
    split at hr
    · rename_i v rd f hs
      refine ⟨0, ?_⟩
      unfold opF; rw [hw]; dsimp only; rw [hs]; exact hr
    · rename_i rd f hs
      refine ⟨0, ?_⟩
      unfold opF; rw [hw]; dsimp only; rw [hs]; exact hr
    · rename_i f args hs
      cases hc : callW P H f args h with
      | none => rw [hc] at hr; cases hr
      | some vhq =>
        rw [hc] at hr
        obtain ⟨k, hk⟩ := callW_iff.1 hc
        refine ⟨k, ?_⟩
        unfold opF; rw [hw]; dsimp only; rw [hs]; dsimp only; rw [hk]; exact hr
    · cases hr
  · rename_i hw
    refine ⟨0, ?_⟩
    unfold opF; rw [hw]; exact hr
  · cases hr
theorem opsF_lim : ∀ (l : List Oper) (e : Env) (h : Heap) (r : Env × Heap × List Foot), opsF P (callW P H) os l e h = some r ↔ ∃ n, opsF P (call P H n) os l e h = some r := by
  intro l e h r
  refine ⟨?_, fun ⟨n, hn⟩ => opsF_mono (call_le n) _ _ _ _ hn⟩
  induction l generalizing e h r with
  | nil => intro hr; exact ⟨0, hr⟩
  | cons o l ih =>
    intro hr
    unfold opsF at hr
    cases h1 : opF P (callW P H) os o e h with
    | none => rw [h1] at hr; cases hr
    | some r1 =>
      obtain ⟨e1, hh1, f1⟩ := r1
      rw [h1] at hr
      dsimp only at hr
      cases h2 : opsF P (callW P H) os l e1 hh1 with
      | none => rw [h2] at hr; cases hr
      | some r2 =>
        rw [h2] at hr
        obtain ⟨n, hn⟩ := opF_lim h1
        obtain ⟨k, hk⟩ := ih _ _ _ h2
        refine ⟨max n k, ?_⟩
        unfold opsF
        rw [opF_mono (call_mono n (max n k) (Nat.le_max_left _ _)) hn]
        dsimp only
        rw [opsF_mono (call_mono k (max n k) (Nat.le_max_right _ _)) _ _ _ _ hk]
        exact hr
theorem exec_lim : ∀ (n : Nat) (c : Code) (e : Env) (h : Heap) (r : AExit × Env × Heap), exec P D (callW P H) n c e h = some r → ∃ k, exec P D (call P H k) n c e h = some r := by
  intro n
  induction n with
  | zero => intro c e h r hr; cases hr
  | succ n ih =>
    intro c e h r hr
    have mono : ∀ {k k' : Nat}, k ≤ k' → ∀ {c : Code} {e : Env} {h : Heap} {r : AExit × Env × Heap}, exec P D (call P H k) n c e h = some r → exec P D (call P H k') n c e h = some r :=
      fun {k k'} hk {c e h r} hr => exec_mono (call_mono k k' hk) n n (Nat.le_refl _) _ _ _ _ hr
    have seq : ∀ (a b : Code), seqK (exec P D (callW P H) n b) (exec P D (callW P H) n a e h) = some r → ∃ k, seqK (exec P D (call P H k) n b) (exec P D (call P H k) n a e h) = some r := by
      intro a b hr
      obtain ⟨x, e', h'⟩ := r
      rcases seqK_inv hr with ⟨e1, h1, k1, k2⟩ | ⟨hx, k1⟩
      · obtain ⟨i, hi⟩ := ih a _ _ _ k1
        obtain ⟨j, hj⟩ := ih b _ _ _ k2
        refine ⟨max i j, ?_⟩
        rw [mono (Nat.le_max_left i j) hi]
        exact mono (Nat.le_max_right i j) hj
      · obtain ⟨i, hi⟩ := ih a _ _ _ k1
        refine ⟨i, ?_⟩
        rw [hi]
        cases x with
        | normal => exact absurd rfl hx
        | exit id => rfl
        | ret => rfl
    cases c with
    | skip => exact ⟨0, hr⟩
    | label l => exact ⟨0, hr⟩
    | ret => exact ⟨0, hr⟩
    | exit id => exact ⟨0, hr⟩
    | seq a b => exact seq a b hr
    | loop b => exact seq b (.loop b) hr
    | cond c t f =>
      obtain ⟨b, hb, hr⟩ := condK_inv hr
      have key : ∀ k, (if b then exec P D (call P H k) n t e h else exec P D (call P H k) n f e h) = some r → exec P D (call P H k) (n + 1) (.cond c t f) e h = some r := fun k hk => by
        show condK (exec P D (call P H k) n t) (exec P D (call P H k) n f) e h (ev e c) = some r
        rw [hb]; cases b <;> exact hk
      cases b
      · obtain ⟨k, hk⟩ := ih f _ _ _ hr; exact ⟨k, key k hk⟩
      · obtain ⟨k, hk⟩ := ih t _ _ _ hr; exact ⟨k, key k hk⟩
    | block id b =>
      have hr : blockK id (exec P D (callW P H) n b e h) = some r := hr
      cases hx : exec P D (callW P H) n b e h with
      | none => rw [hx] at hr; cases hr
      | some y =>
        obtain ⟨k, hk⟩ := ih b _ _ _ hx
        refine ⟨k, ?_⟩
        show blockK id (exec P D (call P H k) n b e h) = some r
        rw [hk, ← hx]; exact hr
    | scope b => exact ih b _ _ _ hr
    | region id os draw =>
      cases draw
      · have hr : regK (ops P (callW P H) os.toList os.toList e h) = some r := hr
        cases hx : ops P (callW P H) os.toList os.toList e h with
        | none => rw [hx] at hr; cases hr
        | some y =>
          obtain ⟨k, hk⟩ := (ops_lim _ _ _ y).1 hx
          refine ⟨k, ?_⟩
          show regK (ops P (call P H k) os.toList os.toList e h) = some r
          rw [hk, ← hx]; exact hr
      · have hr : drawK (D id) (opsF P (callW P H) os.toList os.toList e h) = some r := hr
        cases hx : opsF P (callW P H) os.toList os.toList e h with
        | none => rw [hx] at hr; cases hr
        | some y =>
          obtain ⟨k, hk⟩ := (opsF_lim _ _ _ y).1 hx
          refine ⟨k, ?_⟩
          show drawK (D id) (opsF P (call P H k) os.toList os.toList e h) = some r
          rw [hk, ← hx]; exact hr
    | rangeFunc _ _ _ _ => cases hr
    | goto _ => cases hr
    | refuse _ => cases hr
theorem execW_lim {c : Code} {e : Env} {h : Heap} {r : AExit × Env × Heap} : execW P D (callW P H) c e h = some r ↔ ∃ n, exec P D (call P H n) n c e h = some r := by
  constructor
  · intro hr
    obtain ⟨n, hn⟩ := execW_iff.1 hr
    obtain ⟨k, hk⟩ := exec_lim n _ _ _ _ hn
    exact ⟨max n k, exec_mono (call_mono _ _ (Nat.le_max_right n k)) n _ (Nat.le_max_left n k) _ _ _ _ hk⟩
  · rintro ⟨n, hn⟩
    exact execW_iff.2 ⟨n, exec_mono (call_le n) n n (Nat.le_refl _) _ _ _ _ hn⟩
theorem seqW {a b c : Code} (hc : ∀ cf n e h, exec P D cf (n + 1) c e h = seqK (exec P D cf n b) (exec P D cf n a e h)) (e : Env) (h : Heap) : execW P D cf c e h = seqK (execW P D cf b) (execW P D cf a e h) := by
  refine opt_ext fun r => ?_
  constructor
  · intro hr
    obtain ⟨n, hn⟩ := down1 hr
    rw [hc] at hn
    obtain ⟨x, e', h'⟩ := r
    rcases seqK_inv hn with ⟨e1, h1, k1, k2⟩ | ⟨hx, k1⟩
    · have a1 : execW P D cf a e h = some (.normal, e1, h1) := execW_iff.2 ⟨n, k1⟩
      have b1 : execW P D cf b e1 h1 = some (x, e', h') := execW_iff.2 ⟨n, k2⟩
      rw [a1]; exact b1
    · have a1 : execW P D cf a e h = some (x, e', h') := execW_iff.2 ⟨n, k1⟩
      rw [a1]
      cases x with
      | normal => exact absurd rfl hx
      | exit id => rfl
      | ret => rfl
  · intro hr
    obtain ⟨x, e', h'⟩ := r
    rcases seqK_inv hr with ⟨e1, h1, k1, k2⟩ | ⟨hx, k1⟩
    · obtain ⟨n, hn⟩ := execW_iff.1 k1
      obtain ⟨k, hk⟩ := execW_iff.1 k2
      refine up1 (n := max n k) ?_
      rw [hc, up (Nat.le_max_left n k) hn]
      exact up (Nat.le_max_right n k) hk
    · obtain ⟨n, hn⟩ := execW_iff.1 k1
      refine up1 (n := n) ?_
      rw [hc, hn]
      cases x with
      | normal => exact absurd rfl hx
      | exit id => rfl
      | ret => rfl
theorem execW_seq (a b : Code) (e : Env) (h : Heap) : execW P D cf (.seq a b) e h = seqK (execW P D cf b) (execW P D cf a e h) := seqW (fun _ _ _ _ => rfl) e h
theorem execW_loop (b : Code) (e : Env) (h : Heap) : execW P D cf (.loop b) e h = seqK (execW P D cf (.loop b)) (execW P D cf b e h) := seqW (fun _ _ _ _ => rfl) e h
theorem leafW {c : Code} {e : Env} {h : Heap} {r : AExit × Env × Heap} (hc : ∀ cf n, exec P D cf (n + 1) c e h = some r) : execW P D cf c e h = some r := execW_iff.2 ⟨1, hc _ 0⟩
theorem execW_skip (e : Env) (h : Heap) : execW P D cf .skip e h = some (.normal, e, h) := leafW fun _ _ => rfl
theorem execW_label (l : Nat) (e : Env) (h : Heap) : execW P D cf (.label l) e h = some (.normal, e, h) := leafW fun _ _ => rfl
theorem execW_ret (e : Env) (h : Heap) : execW P D cf .ret e h = some (.ret, e, h) := leafW fun _ _ => rfl
theorem execW_exit (id : Nat) (e : Env) (h : Heap) : execW P D cf (.exit id) e h = some (.exit id, e, h) := leafW fun _ _ => rfl
theorem execW_scope (b : Code) (e : Env) (h : Heap) : execW P D cf (.scope b) e h = execW P D cf b e h := by
  refine opt_ext fun r => ⟨fun hr => ?_, fun hr => ?_⟩
  · obtain ⟨n, hn⟩ := down1 hr
    exact execW_iff.2 ⟨n, hn⟩
  · obtain ⟨n, hn⟩ := execW_iff.1 hr
    exact up1 (n := n) hn
theorem execW_cond (c : Operand) (t f : Code) (e : Env) (h : Heap) : execW P D cf (.cond c t f) e h = condK (execW P D cf t) (execW P D cf f) e h (ev e c) := by
  refine opt_ext fun r => ⟨fun hr => ?_, fun hr => ?_⟩
  · obtain ⟨n, hn⟩ := down1 hr
    have hn : condK (exec P D cf n t) (exec P D cf n f) e h (ev e c) = some r := hn
    obtain ⟨b, hb, k⟩ := condK_inv hn
    rw [hb]
    cases b
    · exact execW_iff.2 ⟨n, k⟩
    · exact execW_iff.2 ⟨n, k⟩
  · obtain ⟨b, hb, k⟩ := condK_inv hr
    have key : ∀ n, (if b then exec P D cf n t e h else exec P D cf n f e h) = some r → execW P D cf (.cond c t f) e h = some r := fun n hn => up1 (n := n) (by
      show condK (exec P D cf n t) (exec P D cf n f) e h (ev e c) = some r
      rw [hb]; cases b <;> exact hn)
    cases b
    · obtain ⟨n, hn⟩ := execW_iff.1 k; exact key n hn
    · obtain ⟨n, hn⟩ := execW_iff.1 k; exact key n hn
theorem execW_block (id : Nat) (b : Code) (e : Env) (h : Heap) : execW P D cf (.block id b) e h = blockK id (execW P D cf b e h) := by
  refine opt_ext fun r => ⟨fun hr => ?_, fun hr => ?_⟩
  · obtain ⟨n, hn⟩ := down1 hr
    have hn : blockK id (exec P D cf n b e h) = some r := hn
    cases hx : exec P D cf n b e h with
    | none => rw [hx] at hn; cases hn
    | some y =>
      have : execW P D cf b e h = some y := execW_iff.2 ⟨n, hx⟩
      rw [this, ← hx]; exact hn
  · cases hx : execW P D cf b e h with
    | none => rw [hx] at hr; cases hr
    | some y =>
      obtain ⟨n, hn⟩ := execW_iff.1 hx
      refine up1 (n := n) ?_
      show blockK id (exec P D cf n b e h) = some r
      rw [hn, ← hx]; exact hr
theorem execW_region (id : Nat) (os : Array Oper) (e : Env) (h : Heap) : execW P D cf (.region id os false) e h = regK (ops P cf os.toList os.toList e h) := by
  refine opt_ext fun r => ⟨fun hr => ?_, fun hr => up1 (n := 0) hr⟩
  obtain ⟨n, hn⟩ := down1 hr
  exact hn
theorem execW_draw (id : Nat) (os : Array Oper) (e : Env) (h : Heap) : execW P D cf (.region id os true) e h = drawK (D id) (opsF P cf os.toList os.toList e h) := by
  refine opt_ext fun r => ⟨fun hr => ?_, fun hr => up1 (n := 0) hr⟩
  obtain ⟨n, hn⟩ := down1 hr
  exact hn
theorem callW_eq {f : FuncId} {fn : Func} {c : Code} (hf : P.funcs[f]? = some fn) (hb : fn.body = some c) (args : List Value) (h : Heap) : callW P H f args h = doneK P fn h (execW P (H f) (callW P H) c (Env.ofList args 0) (h.low h.next)) := by
  refine opt_ext fun r => ⟨fun hr => ?_, fun hr => ?_⟩
  · obtain ⟨n, hn⟩ := callW_iff.1 hr
    cases n with
    | zero => cases hn
    | succ n =>
      obtain ⟨fn', c', h1, h2, h3⟩ := call_inv hn
      rw [hf] at h1; cases h1
      rw [hb] at h2; cases h2
      exact doneK_mono (fun r hr => execW_lim.2 ⟨n, hr⟩) h3
  · cases hx : execW P (H f) (callW P H) c (Env.ofList args 0) (h.low h.next) with
    | none => rw [hx] at hr; cases hr
    | some y =>
      obtain ⟨n, hn⟩ := execW_lim.1 hx
      refine callW_iff.2 ⟨n + 1, ?_⟩
      unfold call
      simp only [hf, hb]
      rw [hn, ← hx]; exact hr
theorem callW_ok {B : Nat} {w0 : World} (hk : okProg P H = true) : CfOk P (callW P H) B w0 := fun f args h v h' q hr => by
  obtain ⟨n, hn⟩ := callW_iff.1 hr
  exact call_ok hk n f args h v h' q hn
theorem callW_wf : CfWf (callW P H) := fun f args h v h' q hr => by
  obtain ⟨n, hn⟩ := callW_iff.1 hr
  exact call_wf n f args h v h' q hn
end
end Go.Am
