/- Operations whose order is left open: what is asked of a region, and what follows of it. -/
import Derived.Test.YtlblocieleildaaAm14
set_option linter.unusedVariables false
set_option linter.unusedSimpArgs false
namespace Go.Am
open Go.RowKit

/-! ### Which operations wait for which -/
def maskOf (acc : List Nat) (o : Oper) : Nat := o.after.toList.foldl (fun s e => bif Region.binds .any e then s ||| 2 ^ e.on ||| acc.getD e.on 0 else s) 0
def masksGo : List Oper → List Nat → List Nat
  | [], acc => acc
  | o :: r, acc => masksGo r (acc ++ [maskOf acc o])
def masks (l : List Oper) : List Nat := masksGo l []
def edgeOk (i : Nat) (o : Oper) : Bool := o.after.toList.all fun e => !Region.binds .any e || Nat.blt e.on i
def needs (a b : Nat) : Bool := match a, b with
  | 1, 2 | 1, 3 | 2, 3 | 3, 2 | 3, 3 => true
  | _, _ => false
def pairStat (os : Array Oper) (d : Option (List (Nat × Nat))) (i j : Nat) : Bool := match os[i]?, os[j]? with
  | some x, some y => x.apart os y && (match d with | none => true | some ps => !needs (kindOf x.op) (kindOf y.op) || ps.any fun p => Nat.beq p.1 i && Nat.beq p.2 j)
  | _, _ => true
def okDraw (os : Array Oper) (d : Option (List (Nat × Nat))) : Bool :=
  (List.range os.size).all fun j => edgeOk j (os.getD j default) && (List.range j).all fun i => ((masks os.toList).getD j 0).testBit i || pairStat os d i j

theorem fold_bit {acc : List Nat} {i : Nat} : ∀ (l : List Edge) (s : Nat), (l.foldl (fun s e => bif Region.binds .any e then s ||| 2 ^ e.on ||| acc.getD e.on 0 else s) s).testBit i = true →
    s.testBit i = true ∨ ∃ e ∈ l, Region.binds .any e = true ∧ (i = e.on ∨ (acc.getD e.on 0).testBit i = true)
  | [], s, h => .inl h
  | e :: l, s, h => by
    simp only [List.foldl_cons] at h
    rcases fold_bit l _ h with h | ⟨e', he, h1, h2⟩
    · cases hb : Region.binds .any e
      · rw [hb] at h; exact .inl h
      · rw [hb] at h
        simp only [cond_true, Nat.testBit_or, Bool.or_eq_true, Nat.testBit_two_pow, decide_eq_true_eq] at h
        rcases h with (h | h) | h
        · exact .inl h
        · exact .inr ⟨e, by simp, hb, .inl h.symm⟩
        · exact .inr ⟨e, by simp, hb, .inr h⟩
    · exact .inr ⟨e', List.mem_cons_of_mem _ he, h1, h2⟩
theorem masksGo_spec {S : Nat → Bool} : ∀ (rest pre : List Oper) (acc : List Nat), acc.length = pre.length →
    (∀ (j : Nat) (o : Oper) (e : Edge), (pre ++ rest)[j]? = some o → S j = true → e ∈ o.after → Region.binds .any e = true → S e.on = true) →
    (∀ k i, S k = true → (acc.getD k 0).testBit i = true → S i = true) → ∀ k i, S k = true → ((masksGo rest acc).getD k 0).testBit i = true → S i = true
  | [], pre, acc, _, _, ha => ha
  | o :: rest, pre, acc, hl, hS, ha => by
    refine masksGo_spec rest (pre ++ [o]) (acc ++ [maskOf acc o]) (by simp [hl]) (by simpa using hS) fun k i hk hb => ?_
    rw [List.getD_eq_getElem?_getD, List.getElem?_append] at hb
    by_cases hlt : k < acc.length
    · rw [if_pos hlt] at hb
      exact ha k i hk (by rw [List.getD_eq_getElem?_getD]; exact hb)
    · rw [if_neg hlt] at hb
      by_cases he : k = acc.length
      · subst he
        simp only [Nat.sub_self, List.getElem?_cons_zero, Option.getD_some] at hb
        rcases fold_bit _ _ hb with h | ⟨e, he, h1, h2⟩
        · simp at h
        · have hon := hS acc.length o e (by rw [hl]; simp) hk (by simpa using he) h1
          rcases h2 with rfl | h2
          · exact hon
          · exact ha e.on i hon h2
      · obtain ⟨z, hz⟩ : ∃ z, k - acc.length = z + 1 := ⟨k - acc.length - 1, by omega⟩
        rw [hz] at hb
        simp at hb
theorem masks_spec {S : Nat → Bool} {l : List Oper} (hS : ∀ (j : Nat) (o : Oper) (e : Edge), l[j]? = some o → S j = true → e ∈ o.after → Region.binds .any e = true → S e.on = true) {k i : Nat} (hk : S k = true)
    (hb : ((masks l).getD k 0).testBit i = true) : S i = true :=
  masksGo_spec l [] [] rfl (by simpa using hS) (fun k i _ h => by simp at h) k i hk hb

/-! ### What a key holds when some of its writers have written -/
open Classical in
noncomputable def KV {α : Type} (x : Nat → α) (hit : Nat → Prop) (L : Nat → Bool) : Nat → α
  | 0 => x 0
  | k + 1 => if L k = true ∧ hit k then x (k + 1) else KV x hit L k
theorem KV_agree {α : Type} {x : Nat → α} {hit : Nat → Prop} {L L' : Nat → Bool} : ∀ {n : Nat}, (∀ k, k < n → hit k → L k = L' k) → KV x hit L n = KV x hit L' n
  | 0, _ => rfl
  | n + 1, h => by
    have ih := KV_agree (x := x) (n := n) fun k hk => h k (Nat.lt_succ_of_lt hk)
    unfold KV
    by_cases hh : hit n
    · rw [h n (Nat.lt_succ_self n) hh, ih]
    · rw [if_neg (fun q => hh q.2), if_neg (fun q => hh q.2), ih]
theorem KV_run {α : Type} {x : Nat → α} {hit : Nat → Prop} : ∀ {n : Nat}, (∀ k, k < n → ¬ hit k → x (k + 1) = x k) → ∀ i, i ≤ n → KV x hit (fun k => decide (k < i)) n = x i
  | 0, _, i, hi => by
    have : i = 0 := by omega
    subst this; rfl
  | n + 1, h, i, hi => by
    have ih := KV_run (x := x) (hit := hit) (n := n) fun k hk => h k (Nat.lt_succ_of_lt hk)
    unfold KV
    by_cases he : i = n + 1
    · subst he
      by_cases hh : hit n
      · rw [if_pos ⟨by simp, hh⟩]
      · rw [if_neg (fun q => hh q.2), h n (Nat.lt_succ_self n) hh]
        rw [← ih n (Nat.le_refl n)]
        exact KV_agree fun k hk _ => by simp; omega
    · rw [if_neg (fun q => by have := q.1; simp at this; omega)]
      exact ih i (by omega)

/-! ### The run in the order of the text -/
section
variable {P : Program} {cf : CallF} {B : Nat} {w0 : World} {ns : Nat} {os : Array Oper}
structure Run (P : Program) (cf : CallF) (os : List Oper) (all : List Oper) (E : Nat → Env) (H : Nat → Heap) (F : Nat → Foot) : Prop where
  step : ∀ i o, os[i]? = some o → opF P cf all o (E i) (H i) = some (E (i + 1), H (i + 1), F i)
theorem run_of_opsF {all : List Oper} : ∀ (l : List Oper) (e : Env) (h : Heap) (e' : Env) (h' : Heap) (fs : List Foot), opsF P cf all l e h = some (e', h', fs) →
    ∃ E H F, E 0 = e ∧ H 0 = h ∧ E l.length = e' ∧ H l.length = h' ∧ Run P cf l all E H F ∧ ∀ i, i < l.length → fs[i]? = some (F i)
  | [], e, h, e', h', fs, hr => by
    cases hr
    exact ⟨fun _ => e, fun _ => h, fun _ => foot0 h, rfl, rfl, rfl, rfl, ⟨fun i o hi => by simp at hi⟩, fun i hi => by simp at hi⟩
  | o :: l, e, h, e', h', fs, hr => by
    unfold opsF at hr
    cases h1 : opF P cf all o e h with
    | none => rw [h1] at hr; cases hr
    | some r1 =>
      obtain ⟨e1, hh1, f1⟩ := r1
      rw [h1] at hr
      dsimp only at hr
      cases h2 : opsF P cf all l e1 hh1 with
      | none => rw [h2] at hr; cases hr
      | some r2 =>
        obtain ⟨e2, hh2, fs2⟩ := r2
        rw [h2] at hr
        cases hr
        obtain ⟨E, H, F, k1, k2, k3, k4, k5, k6⟩ := run_of_opsF l e1 hh1 _ _ _ h2
        refine ⟨fun i => match i with | 0 => e | i + 1 => E i, fun i => match i with | 0 => h | i + 1 => H i, fun i => match i with | 0 => f1 | i + 1 => F i, rfl, rfl, k3, k4, ⟨fun i o' hi => ?_⟩, fun i hi => ?_⟩
        · cases i with
          | zero => simp at hi; subst hi; simpa [k1, k2] using h1
          | succ i => exact k5.step i o' (by simpa using hi)
        · cases i with
          | zero => rfl
          | succ i => simpa using k6 i (by simpa using hi)
/-- what one step of that run is -/
inductive Step1 (P : Program) (cf : CallF) (all : List Oper) (o : Oper) (e e' : Env) (h h' : Heap) (F : Foot) : Prop
  | skip (hw : wantedA all o e = some false) (he : e' = e.put o.dst undef) (hh : h' = h) (hF : F = foot0 h)
  | plain (hw : wantedA all o e = some true) (r : Res) (v : Value) (hs : stepOf P o e h = some r) (hr : (∃ rd f, r = .val v rd f) ∨ (v = undef ∧ ∃ rd f, r = .unit rd f)) (he : e' = e.put o.dst v) (hh : h' = h.eff r.eff) (hF : F = Foot.mk1 h r.rd r.eff)
  | call (hw : wantedA all o e = some true) (g : FuncId) (args : List Value) (v : Value) (q : Bool) (hs : stepOf P o e h = some (.enter g args)) (hc : cf g args h = some (v, h', q)) (he : e' = e.put o.dst v) (hF : F = ⟨true, !q, h.next, h'.next, [], []⟩)
theorem step1_of_opF {all : List Oper} {o : Oper} {e e' : Env} {h h' : Heap} {F : Foot} (hr : opF P cf all o e h = some (e', h', F)) : Step1 P cf all o e e' h h' F := by
  unfold opF at hr
  cases hw : wantedA all o e with
  | none => rw [hw] at hr; cases hr
  | some b =>
    rw [hw] at hr
    cases b with
    | false => cases hr; exact .skip hw rfl rfl rfl
    | true =>
      dsimp only at hr
      cases hs : stepOf P o e h with
      | none => rw [hs] at hr; cases hr
      | some r =>
        rw [hs] at hr
        cases r with
        | val v rd f => cases hr; exact .plain hw _ v hs (.inl ⟨_, _, rfl⟩) rfl rfl rfl
        | unit rd f => cases hr; exact .plain hw _ undef hs (.inr ⟨rfl, _, _, rfl⟩) rfl rfl rfl
        | enter g args =>
          dsimp only at hr
          cases hc : cf g args h with
          | none => rw [hc] at hr; cases hr
          | some r =>
            obtain ⟨v, h1, q⟩ := r
            rw [hc] at hr
            cases hr
            exact .call hw g args v q hs hc rfl rfl
end
end Go.Am
