/- Regions of open order: the pairs that are looked at. -/
import Derived.Test.YtlblocieleildaaAm31
set_option linter.unusedVariables false
namespace Go.Am
/-- two ways that meet again: what is known there -/
theorem W.join {P : Program} {cf : CallF} {D : Draws} {Q : QQ} {K M : Env → Heap → Prop} {c : Code} {e : Env} {h : Heap} (h1 : Wp P cf D c (thenQ M Q) e h) (h2 : ∀ e h, M e h → K e h) : Wp P cf D c (thenQ K Q) e h :=
  wq_mono h1 fun x e1 k1 hq => by
    cases x with
    | normal => exact h2 _ _ hq
    | exit id => exact hq
    | ret => exact hq
/-- how the heap came to be is left behind -/
theorem W.forgetH {R : Env → Heap → Prop} {e : Env} {h : Heap} (k : ∀ h2, h2 = h → R e h2) : R e h := k h rfl
theorem drawOk_cons (i j : Nat) (ps : List (Nat × Nat)) (fs : List Foot) : drawOk (some ((i, j) :: ps)) fs = ((match fs[i]?, fs[j]? with | some a, some b => pairOk a b | _, _ => false) && drawOk (some ps) fs) := rfl
noncomputable def pairM : Option Foot → Option Foot → Bool
  | some a, some b => pairOk a b
  | _, _ => false
theorem drawOk_pair (i j : Nat) (ps : List (Nat × Nat)) (fs : List Foot) : drawOk (some ((i, j) :: ps)) fs = (pairM fs[i]? fs[j]? && drawOk (some ps) fs) := by
  rw [drawOk_cons]; unfold pairM; rfl
theorem pairM_some (a b : Foot) : pairM (some a) (some b) = pairOk a b := rfl
theorem pairOk_mk1 (h h' : Heap) (rd rd' : List Nat) (f f' : Eff) : pairOk (Foot.mk1 h rd f) (Foot.mk1 h' rd' f') = (apartL f.wr (rd' ++ f'.wr) && apartL f'.wr (rd ++ f.wr) && (rd' ++ f'.wr).all fun x => Nat.blt x h.next || Nat.ble (h.eff f).next x) := by
  unfold pairOk Foot.mk1
  simp
theorem pairOk_call (n n' : Nat) (h : Heap) (rd : List Nat) (f : Eff) : pairOk ⟨true, false, n, n', [], []⟩ (Foot.mk1 h rd f) = (f.wr.isEmpty && (rd ++ f.wr).all fun x => Nat.blt x n || Nat.ble n' x) := by
  unfold pairOk Foot.mk1 apartL
  cases hf : f.wr.isEmpty <;> simp [hf]
theorem wr_non : Eff.wr .non = [] := rfl
theorem wr_set (b : Nat) (x : Blk) : Eff.wr (.set b x) = [b] := rfl
theorem wr_new (x : Blk) : Eff.wr (.new x) = [] := rfl
theorem apart_nil (l : List Nat) : apartL [] l = true := rfl
theorem apart_nil' (l : List Nat) : apartL l [] = true := by unfold apartL; simp
theorem apart_one (a b : Nat) : apartL [a] [b] = !decide (a = b) := by
  unfold apartL
  simp [nbeq]
theorem ltle (x n : Nat) : (decide (x < n) || decide (n ≤ x)) = true := by
  by_cases h : x < n
  · simp [h]
  · simp [h]; omega
attribute [go_sem] drawOk_pair pairM_some pairOk_mk1 pairOk_call List.isEmpty_nil wr_non wr_set wr_new apart_nil apart_nil' apart_one ltle
end Go.Am
