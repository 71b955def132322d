/- What atMost and atLeast give. -/
import Derived.Test.YtlblocieleildaaSk6
import Derived.Test.YtlblocieleildaaAm32
set_option linter.unusedSimpArgs false
set_option linter.unusedVariables false
set_option maxRecDepth 20000
namespace Go.Proofs.Ytlblocieleildaa
open Go.Am

/-- a bound: whether there is one, and which -/
structure Bd where
  s : Bool
  n : Int
  d : Int
def bcells (b : Bd) : List Value := [.bool b.s, .int .i64 b.n, .int .i64 b.d]
def atMostZ (b : Bd) (n d : Int) : Bd := if b.s = false ∨ lessZ (quoN n d) (quoD n d) b.n b.d = true then ⟨true, quoN n d, quoD n d⟩ else b
def atLeastZ (b : Bd) (n d : Int) : Bd := if b.s = false ∨ lessZ b.n b.d (quoN n d) (quoD n d) = true then ⟨true, quoN n d, quoD n d⟩ else b
theorem quoD_ne {n d : Int} (hd : 0 < d) : quoD n d ≠ 0 := by
  unfold quoD
  have h1 : (Int.gcd n d : Int) ∣ d := Int.gcd_dvd_right ..
  obtain ⟨k, hk⟩ := h1
  have h2 := gcd_ne (n := n) hd
  rw [show d.tdiv (Int.gcd n d : Int) = k from by
    conv => lhs; arg 1; rw [hk]
    exact Int.mul_tdiv_cancel_left k h2]
  intro hk0; subst hk0; rw [Int.mul_zero] at hk; omega
/-- what a call through a pointer to one block leaves -/
structure Put (h h' : Heap) (kb : Nat) (cs : List Value) : Prop where
  at_ : h'.get kb = some ⟨cs, true, false, none⟩
  next : h.next ≤ h'.next
  get : ∀ b, b < h.next → b ≠ kb → h'.get b = h.get b
  wr : h'.wr = h.wr
theorem put_stay {h : Heap} {kb : Nat} {cs : List Value} (hg : h.get kb = some ⟨cs, true, false, none⟩) : Put h h kb cs := ⟨hg, Nat.le_refl _, fun _ _ _ => rfl, rfl⟩
/-- the call's own heap, written at kb -/
theorem put_leave {h h1 : Heap} {kb : Nat} {cs : List Value} (hk : kb < h.next) (hw : h.wr ≤ kb) (h1w : h1.wr = kb) (hg : h1.get kb = some ⟨cs, true, false, none⟩) (hn : h.next ≤ h1.next) (ho : ∀ b, b < h.next → b ≠ kb → h1.get b = h.get b) :
    ∃ h' q, leave h h1 [] = (.tuple #[], h', q) ∧ Put h h' kb cs := by
  refine ⟨h1.low h.wr, false, ?_, hg, hn, ho, rfl⟩
  have hb : Nat.beq h1.wr h.next = false := by
    cases hh : Nat.beq h1.wr h.next
    · rfl
    · have := Nat.eq_of_beq_eq_true hh; omega
  unfold leave
  rw [hb, if_neg (by omega)]
  rfl
theorem call_put {f : FuncId} {fn : Func} {c : Code} {args : List Value} {h : Heap} {kb : Nat} {cs : List Value} (hf : Try.prog.funcs[f]? = some fn) (hb : fn.body = some c) (hr : fn.results.toList = []) (hk : kb < h.next) (hw : h.wr ≤ kb)
    (hwp : Wp Try.prog (callW Try.prog SkH) (SkH f) c (doneQ Try.prog [] (fun vs h1 => vs = [] ∧ ((h1.wr = h.next ∧ h.get kb = some ⟨cs, true, false, none⟩) ∨ (h1.wr = kb ∧ h1.get kb = some ⟨cs, true, false, none⟩ ∧ h.next ≤ h1.next ∧ ∀ b, b < h.next → b ≠ kb → h1.get b = h.get b)))) (Env.ofList args 0) (h.low h.next)) :
    ∃ h' q, callW Try.prog SkH f args h = some (.tuple #[], h', q) ∧ Put h h' kb cs := by
  obtain ⟨vs, h1, ⟨rfl, h2⟩, hc⟩ := call_done (H := SkH) hf hb hr hwp
  rcases h2 with ⟨h3, h4⟩ | ⟨h3, h4, h5, h6⟩
  · exact ⟨h, true, hc.trans (congrArg some (leave_flat h3 rfl)), put_stay h4⟩
  · obtain ⟨h', q, q1, q2⟩ := put_leave hk hw h3 h4 h5 h6
    exact ⟨h', q, hc.trans (congrArg some q1), q2⟩
theorem c41 (b : Bd) (kb : Nat) (n d : Int) (hn : -9223372036854775807 ≤ n ∧ n ≤ 9223372036854775807) (hd : 0 < d ∧ d ≤ 9223372036854775807) (hb : b.s = true → b.d ≠ 0) (h : Heap) (hg : h.get kb = some ⟨bcells b, true, false, none⟩) (hk : kb < h.next) (hw : h.wr ≤ kb) :
    ∃ h' q, callW Try.prog SkH 41 [.pointer (some ⟨kb, 0, none⟩), .int .i64 n, .int .i64 d] h = some (.tuple #[], h', q) ∧ Put h h' kb (bcells (atMostZ b n d)) := by
  refine call_put (c := _) Try.func41 rfl rfl hk hw ?_
  have n1 : (kb = h.next) = False := eq_false (by omega)
  have n2 : (h.next = kb) = False := eq_false (by omega)
  have n3 : (kb < h.next) = True := eq_true hk
  have q46 := c46 n d hn hd
  have qd := quoD_ne (n := n) hd.1
  obtain ⟨s, bn, bd⟩ := b
  dsimp only [bcells] at hg hb ⊢
  cases s
  · have e : atMostZ ⟨false, bn, bd⟩ n d = ⟨true, quoN n d, quoD n d⟩ := by unfold atMostZ; simp
    rw [e]
    simp only [go_sem, ↓forkQ_true, ↓forkQ_false, ↓guardQ_some, ↓resQ_val, ↓resQ_unit, ↓resQ_enter, ↓retQ_some, ↓resFQ_val, ↓resFQ_unit, ↓resFQ_enter, ↓retFQ_some, Nat.reduceEqDiff, reduceIte, Nat.reduceAdd, Nat.reduceMul, Nat.reduceSub, reduceCtorEq, Nat.reduceLeDiff, guardOf, n1, n2, n3, q46, hg, doneQ_normal, doneQ_ret]
    exact ⟨_, rfl, rfl, .inr ⟨Nat.le_succ _, fun b hb hne => by rw [if_neg (Ne.symm hne), if_neg (Ne.symm hne), if_neg (by omega)]; exact if_neg (by omega)⟩⟩
  · have hbd := hb rfl
    have q31 := c31 (quoN n d) (quoD n d) bn bd qd hbd
    cases hl : lessZ (quoN n d) (quoD n d) bn bd
    · have e : atMostZ ⟨true, bn, bd⟩ n d = ⟨true, bn, bd⟩ := by unfold atMostZ; rw [if_neg (by simp [hl])]
      rw [e]
      rw [hl] at q31
      simp only [go_sem, ↓forkQ_true, ↓forkQ_false, ↓guardQ_some, ↓resQ_val, ↓resQ_unit, ↓resQ_enter, ↓retQ_some, ↓resFQ_val, ↓resFQ_unit, ↓resFQ_enter, ↓retFQ_some, Nat.reduceEqDiff, reduceIte, Nat.reduceAdd, Nat.reduceMul, Nat.reduceSub, reduceCtorEq, Nat.reduceLeDiff, guardOf, n1, n2, n3, q46, hg, q31, doneQ_normal, doneQ_ret]
      exact ⟨_, rfl, rfl, .inl trivial⟩
    · have e : atMostZ ⟨true, bn, bd⟩ n d = ⟨true, quoN n d, quoD n d⟩ := by unfold atMostZ; rw [if_pos (.inr hl)]
      rw [e]
      rw [hl] at q31
      simp only [go_sem, ↓forkQ_true, ↓forkQ_false, ↓guardQ_some, ↓resQ_val, ↓resQ_unit, ↓resQ_enter, ↓retQ_some, ↓resFQ_val, ↓resFQ_unit, ↓resFQ_enter, ↓retFQ_some, Nat.reduceEqDiff, reduceIte, Nat.reduceAdd, Nat.reduceMul, Nat.reduceSub, reduceCtorEq, Nat.reduceLeDiff, guardOf, n1, n2, n3, q46, hg, q31, doneQ_normal, doneQ_ret]
      exact ⟨_, rfl, rfl, .inr ⟨Nat.le_succ _, fun b hb hne => by rw [if_neg (Ne.symm hne), if_neg (Ne.symm hne), if_neg (by omega)]; exact if_neg (by omega)⟩⟩
theorem c42 (b : Bd) (kb : Nat) (n d : Int) (hn : -9223372036854775807 ≤ n ∧ n ≤ 9223372036854775807) (hd : 0 < d ∧ d ≤ 9223372036854775807) (hb : b.s = true → b.d ≠ 0) (h : Heap) (hg : h.get kb = some ⟨bcells b, true, false, none⟩) (hk : kb < h.next) (hw : h.wr ≤ kb) :
    ∃ h' q, callW Try.prog SkH 42 [.pointer (some ⟨kb, 0, none⟩), .int .i64 n, .int .i64 d] h = some (.tuple #[], h', q) ∧ Put h h' kb (bcells (atLeastZ b n d)) := by
  refine call_put (c := _) Try.func42 rfl rfl hk hw ?_
  have n1 : (kb = h.next) = False := eq_false (by omega)
  have n2 : (h.next = kb) = False := eq_false (by omega)
  have n3 : (kb < h.next) = True := eq_true hk
  have q46 := c46 n d hn hd
  have qd := quoD_ne (n := n) hd.1
  obtain ⟨s, bn, bd⟩ := b
  dsimp only [bcells] at hg hb ⊢
  cases s
  · have e : atLeastZ ⟨false, bn, bd⟩ n d = ⟨true, quoN n d, quoD n d⟩ := by unfold atLeastZ; simp
    rw [e]
    simp only [go_sem, ↓forkQ_true, ↓forkQ_false, ↓guardQ_some, ↓resQ_val, ↓resQ_unit, ↓resQ_enter, ↓retQ_some, ↓resFQ_val, ↓resFQ_unit, ↓resFQ_enter, ↓retFQ_some, Nat.reduceEqDiff, reduceIte, Nat.reduceAdd, Nat.reduceMul, Nat.reduceSub, reduceCtorEq, Nat.reduceLeDiff, guardOf, n1, n2, n3, q46, hg, doneQ_normal, doneQ_ret]
    exact ⟨_, rfl, rfl, .inr ⟨Nat.le_succ _, fun b hb hne => by rw [if_neg (Ne.symm hne), if_neg (Ne.symm hne), if_neg (by omega)]; exact if_neg (by omega)⟩⟩
  · have hbd := hb rfl
    have q31 := c31 bn bd (quoN n d) (quoD n d) hbd qd
    cases hl : lessZ bn bd (quoN n d) (quoD n d)
    · have e : atLeastZ ⟨true, bn, bd⟩ n d = ⟨true, bn, bd⟩ := by unfold atLeastZ; rw [if_neg (by simp [hl])]
      rw [e]
      rw [hl] at q31
      simp only [go_sem, ↓forkQ_true, ↓forkQ_false, ↓guardQ_some, ↓resQ_val, ↓resQ_unit, ↓resQ_enter, ↓retQ_some, ↓resFQ_val, ↓resFQ_unit, ↓resFQ_enter, ↓retFQ_some, Nat.reduceEqDiff, reduceIte, Nat.reduceAdd, Nat.reduceMul, Nat.reduceSub, reduceCtorEq, Nat.reduceLeDiff, guardOf, n1, n2, n3, q46, hg, q31, doneQ_normal, doneQ_ret]
      exact ⟨_, rfl, rfl, .inl trivial⟩
    · have e : atLeastZ ⟨true, bn, bd⟩ n d = ⟨true, quoN n d, quoD n d⟩ := by unfold atLeastZ; rw [if_pos (.inr hl)]
      rw [e]
      rw [hl] at q31
      simp only [go_sem, ↓forkQ_true, ↓forkQ_false, ↓guardQ_some, ↓resQ_val, ↓resQ_unit, ↓resQ_enter, ↓retQ_some, ↓resFQ_val, ↓resFQ_unit, ↓resFQ_enter, ↓retFQ_some, Nat.reduceEqDiff, reduceIte, Nat.reduceAdd, Nat.reduceMul, Nat.reduceSub, reduceCtorEq, Nat.reduceLeDiff, guardOf, n1, n2, n3, q46, hg, q31, doneQ_normal, doneQ_ret]
      exact ⟨_, rfl, rfl, .inr ⟨Nat.le_succ _, fun b hb hne => by rw [if_neg (Ne.symm hne), if_neg (Ne.symm hne), if_neg (by omega)]; exact if_neg (by omega)⟩⟩
end Go.Proofs.Ytlblocieleildaa
