/- At of the program and of the reference give the same. -/
import Derived.Test.YtlblocieleildaaSk29
import Derived.Test.YtlblocieleildaaSk32
import Derived.Test.YtlblocieleildaaSk34
set_option linter.unusedSimpArgs false
set_option linter.unusedVariables false
namespace Go.Proofs.Ytlblocieleildaa
open Go.Am Go.Plain

theorem gt_out {l : List Gt} {i : Nat} (h : l.length ≤ i) : gt l i = ⟨0, 0, 0⟩ := by
  unfold gt; rw [List.getD_eq_getElem?_getD, List.getElem?_eq_none h]; rfl
theorem turned_fun (l : List Gt) (i : Nat) : gt (turnedL l) i = ⟨(gt l i).x, -(gt l i).hi, -(gt l i).lo⟩ := by
  by_cases h : i < l.length
  · exact turnedL_at l i h
  · rw [gt_out (l := turnedL l) (by rw [turnedL_len]; omega), gt_out (l := l) (by omega)]; rfl
theorem Un_turned (l : List Gt) : Un (turnedL l) = Ln l := by
  unfold Un Ln
  rw [turnedL_len]
  have e1 : Xs (turnedL l) = Xs l := by funext i; unfold Xs; rw [turned_fun]
  have e2 : His (turnedL l) = Los l := by funext i; unfold His Los; rw [turned_fun]
  rw [e1, e2]
theorem Ln_turned (l : List Gt) : Ln (turnedL l) = Un l := by
  unfold Un Ln
  rw [turnedL_len]
  have e1 : Xs (turnedL l) = Xs l := by funext i; unfold Xs; rw [turned_fun]
  have e2 : Los (turnedL l) = His l := by funext i; unfold His Los; rw [turned_fun]; dsimp only; omega
  rw [e1, e2]
theorem feas {l : List Gt} (o : Ok l) (hp : passP l = true) : ∃ p q, 0 < q ∧ ∀ i j, i < l.length → j < l.length → Fe l p q i j := by
  by_cases h1 : l.length = 1
  · refine ⟨0, 1, by decide, fun i j hi hj => ?_⟩
    have : i = j := by omega
    subst this
    exact fe_same o (by decide) hi
  · have h2 : 2 ≤ l.length := by have := o.pos; omega
    have gr := greatR_min o h2
    have kr := leastR_max o h2
    rw [pass_eq] at hp
    unfold passR at hp
    rw [if_pos ((checkZ_ok l).2 o)] at hp
    have hle : (leastR l).n * (greatR l).d ≤ (greatR l).n * (leastR l).d := Int.not_lt.1 fun h => by rw [(less_low gr.low kr.low).2 h] at hp; cases hp
    exact ⟨_, _, gr.low.d0, fe_of_ref o (Int.le_of_lt gr.low.d0) gr.le (fun r hr => fr_trans (rlP_pos o r hr) kr.low.d0 gr.low.d0 (kr.ge r hr) hle)⟩
theorem feas_turned {l : List Gt} (h : ∃ p q, 0 < q ∧ ∀ i j, i < l.length → j < l.length → Fe l p q i j) : ∃ p q, 0 < q ∧ ∀ i j, i < (turnedL l).length → j < (turnedL l).length → Fe (turnedL l) p q i j := by
  obtain ⟨p, q, hq, h⟩ := h
  refine ⟨-p, q, hq, fun i j hi hj => ?_⟩
  rw [turnedL_len] at hi hj
  have := h j i hj hi
  unfold Fe at this ⊢
  rw [turned_fun, turned_fun]
  dsimp only
  rw [Int.mul_neg, Int.mul_neg, Int.neg_mul, Int.neg_mul]
  omega
theorem at_eq (l : List Gt) (x : Int) : atP l x = atR l x := by
  unfold atP atR
  rw [pass_eq]
  by_cases hz : checkZ l = 0
  · rw [if_pos hz, if_pos hz]
    by_cases hx : x < 0 ∨ 1073741824 < x
    · rw [if_pos hx, if_pos hx]
    rw [if_neg hx, if_neg hx]
    by_cases hc : (l.length = 1 ∧ x ≠ (gt l 0).x) ∨ passR l = false
    · rw [if_pos hc, if_pos hc]
    rw [if_neg hc, if_neg hc]
    have o := (checkZ_ok l).1 hz
    have hp : passP l = true := by
      rw [pass_eq]
      cases h : passR l
      · exact absurd (.inr h) hc
      · rfl
    have h1 : l.length = 1 → x = (gt l 0).x := fun h => Classical.not_not.1 fun hn => hc (.inl ⟨h, hn⟩)
    have hf := feas o hp
    have e1 : highP l x = highR l x := high_eq o (by omega) h1 hf
    have e2 : lowBP l x = lowBR l x := by
      have := high_eq o.turned (x := x) (by omega) (fun h => by rw [turned_fun]; exact h1 (by rw [turnedL_len] at h; exact h)) (feas_turned hf)
      rw [Un_turned, Ln_turned, turnedL_len] at this
      exact this
    rw [e1, e2]
  · rw [if_neg hz, if_neg hz]
end Go.Proofs.Ytlblocieleildaa
