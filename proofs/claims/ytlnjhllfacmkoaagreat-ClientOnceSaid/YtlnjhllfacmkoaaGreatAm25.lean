/- The abstract machine run by rewriting: one rule for each operation. -/
import Derived.Test.YtlnjhllfacmkoaaGreatAm24
set_option linter.unusedVariables false
set_option linter.unusedSimpArgs false
set_option linter.unusedSectionVars false
namespace Go.Am
open Go.RowKit
noncomputable section

/-! ### What is asked of the program's types, as tables -/
def fieldAt (P : Program) (s : TypeId) (f : Nat) : Option Nat := match P.underlying s with
  | some (.struct fields) => match fields[f]? with
    | some fd => match szOf P fd.type with
      | some n => bif Nat.beq n 0 then none else some fd.offset
      | none => none
    | none => none
  | _ => none
def fieldOfT (P : Program) (s : TypeId) (f : Nat) : Option (Bool × Nat × Nat) := match P.underlying s with
  | some (.struct fields) => match fields[f]? with
    | some fd => match aggT P fd.type, szOf P fd.type with
      | some g, some n => some (g, fd.offset, n)
      | _, _ => none
    | none => none
  | _ => none
def slSz (P : Program) (t : TypeId) : Option Nat := match P.underlying t with
  | some (.slice el) => szOf P el
  | _ => none
def apSz (P : Program) (t : TypeId) : Option (Nat × Nat) := match P.underlying t with
  | some (.slice el) => match P.info? el with
    | some i => match i.zero with
      | some z => bif !Nat.beq i.size 0 && !Nat.beq i.bytes 0 && Nat.beq z.cells.size i.size then some (i.size, i.bytes) else none
      | none => none
    | none => none
  | _ => none
def isSl (P : Program) (t : TypeId) : Bool := match P.underlying t with
  | some (.slice _) => true
  | _ => false
def isStr (P : Program) (t : TypeId) : Bool := match P.underlying t with
  | some .string => true
  | _ => false
def zeroT (P : Program) (t : TypeId) : Option Value := match (P.info? t).bind (·.zero) with
  | some z => bif flat z then some z else none
  | none => none
def bsT (P : Program) (t : TypeId) : Option (Nat × Value) := match P.underlying t with
  | some (.slice el) => match P.info? el with
    | some i => match i.zero with
      | some z => bif Nat.ble (i.size) 64 && flat z && !Nat.beq i.size 0 && z.cells.toList.all plainCell then some (i.size, z) else none
      | none => none
    | none => none
  | _ => none
def bT (P : Program) (t : TypeId) : Option (List (Nat × Nat) × Value) := match P.underlying t, (P.info? t).bind (·.zero) with
  | some (.struct fs), some z => match places P fs with
    | some ps => bif flat z then some (ps, z) else none
    | none => none
  | _, _ => none

def pickV : Value → Value → Value → Option Res
  | .bool t, x, y => some (.val (bif t then x else y) [] .non)
  | _, _, _ => none
def nilChk : Value → Option Res
  | .pointer (some a) => some (.val (.pointer (some a)) [] .non)
  | .func (.func g) first captured => some (.val (.func (.func g) first captured) [] .non)
  | .iface t v => some (.val (.iface t v) [] .non)
  | _ => none
def loadM : Option Bool → Option Nat → Heap → Option (Nat × Nat) → Option Res
  | some g, some n, h, p => loadV g n h p
  | _, _, _, _ => none
def storeM : Option Nat → Value → Heap → Option (Nat × Nat) → Option Res
  | some n, v, h, p => storeV n v h p
  | none, _, _, _ => none
def fieldM : Option Nat → Option (Nat × Nat) → Option Res
  | some off, p => fieldV off p
  | none, _ => none
def fieldOfM : Option (Bool × Nat × Nat) → Value → Option Res
  | some (g, off, n), v => fieldOf g off n v
  | none, _ => none
def extractM : Value → Nat → Option Res
  | .tuple vs, i => (vs.toList[i]?).map fun v => .val v [] .non
  | _, _ => none
def callM (P : Program) (args : List Value) : Value → Option Res
  | .func (.func g) first captured => bif hasBody P g then some (.enter g (first.toList ++ args ++ captured.toList)) else none
  | _ => none
section
variable {P : Program} {dst : Option Tmp} {ty : TypeId} {pos : String} {af : Array Edge} {g : Option (Nat × Bool)} {e : Env} {h : Heap}
theorem st_move (x : Operand) : stepOf P ⟨dst, .move x, ty, pos, af, g⟩ e h = some (.val (ev e x) [] .non) := rfl
theorem st_assign (x : Operand) : stepOf P ⟨dst, .assign x, ty, pos, af, g⟩ e h = some (.val (ev e x) [] .non) := rfl
theorem st_pick (c x y : Operand) : stepOf P ⟨dst, .pick c x y, ty, pos, af, g⟩ e h = pickV (ev e c) (ev e x) (ev e y) := by
  show pickS c x y e h = _
  unfold pickS pickV
  cases ev e c <;> rfl
theorem st_nilCheck (x : Operand) : stepOf P ⟨dst, .nilCheck x, ty, pos, af, g⟩ e h = nilChk (ev e x) := rfl
theorem st_load (t : TypeId) (a : Operand) : stepOf P ⟨dst, .load t a, ty, pos, af, g⟩ e h = loadM (aggT P t) (szOf P t) h (asPtr (ev e a)) := by
  show loadS P t a e h = _
  unfold loadS loadM
  cases aggT P t <;> cases szOf P t <;> rfl
theorem st_store (t : TypeId) (a x : Operand) : stepOf P ⟨dst, .store t a x, ty, pos, af, g⟩ e h = storeM (szOf P t) (ev e x) h (asPtr (ev e a)) := by
  show storeS P t a x e h = _
  unfold storeS storeM
  cases szOf P t <;> rfl
theorem st_fieldAddr (s : TypeId) (x : Operand) (f : Nat) : stepOf P ⟨dst, .fieldAddr s x f, ty, pos, af, g⟩ e h = fieldM (fieldAt P s f) (asPtr (ev e x)) := by
  show fieldAddrS P s x f e h = _
  unfold fieldAddrS fieldAt
  cases P.underlying s with
  | none => rfl
  | some u =>
    cases u <;> first | rfl | skip
    rename_i fields
    dsimp only
    cases fields[f]? with
    | none => rfl
    | some fd =>
      dsimp only
      cases szOf P fd.type with
      | none => rfl
      | some n => dsimp only; cases Nat.beq n 0 <;> rfl
theorem st_field (s : TypeId) (x : Operand) (f : Nat) : stepOf P ⟨dst, .field s x f, ty, pos, af, g⟩ e h = fieldOfM (fieldOfT P s f) (ev e x) := by
  show fieldS P s x f e h = _
  unfold fieldS fieldOfT
  cases P.underlying s with
  | none => rfl
  | some u =>
    cases u <;> first | rfl | skip
    rename_i fields
    dsimp only
    cases fields[f]? with
    | none => rfl
    | some fd =>
      dsimp only
      cases aggT P fd.type <;> cases szOf P fd.type <;> rfl
def indexM (P : Program) (t : TypeId) (i x : Value) : Option Nat → Option Res
  | some sz => indexV sz (asI i) (asSl x)
  | none => none
theorem st_index (t : TypeId) (x i : Operand) (hs : isSl P t = true) : stepOf P ⟨dst, .indexAddr t x i, ty, pos, af, g⟩ e h = indexM P t (ev e i) (ev e x) (slSz P t) := by
  show indexAddrS P t x i e h = _
  unfold isSl at hs
  unfold indexAddrS indexM slSz
  split at hs
  · rename_i el hu
    rw [hu]; dsimp only
    cases szOf P el <;> rfl
  · cases hs
def sliceM (h : Heap) (lo hi : Option Value) (x : Value) : Option Nat → Option Res
  | some sz => sliceV h sz lo hi (asSl x)
  | none => none
theorem st_slice (t : TypeId) (x : Operand) (lo hi : Option Operand) (hs : isSl P t = true) : stepOf P ⟨dst, .slice t x lo hi none, ty, pos, af, g⟩ e h = sliceM h (lo.map (ev e)) (hi.map (ev e)) (ev e x) (slSz P t) := by
  show sliceS P _ t x lo hi e h = _
  unfold isSl at hs
  unfold sliceS sliceM slSz
  split at hs
  · rename_i el hu
    rw [hu]; dsimp only
    cases szOf P el <;> rfl
  · cases hs
theorem st_bin (op : BinOp) (t : TypeId) (x y : Operand) (t' : TypeId) : stepOf P ⟨dst, .binOp op t x y t', ty, pos, af, g⟩ e h = orElse (binI op (asIK (ev e x)) (asIK (ev e y))) fun _ => binV P ⟨dst, .binOp op t x y t', ty, pos, af, g⟩ op t e (ev e x) (ev e y) := rfl
theorem st_un (op : UnOp) (t : TypeId) (x : Operand) : stepOf P ⟨dst, .unOp op t x, ty, pos, af, g⟩ e h = unV P ⟨dst, .unOp op t x, ty, pos, af, g⟩ e op (ev e x) := rfl
theorem st_extract (t : Operand) (i : Nat) : stepOf P ⟨dst, .extract t i, ty, pos, af, g⟩ e h = extractM (ev e t) i := by
  show extractS t i e h = _
  unfold extractS extractM
  cases ev e t <;> first | rfl | (rename_i vs; simp)
theorem st_len (x : Operand) (t : TypeId) (hs : isSl P t = true) : stepOf P ⟨dst, .call ⟨.builtin .len, #[x], #[t]⟩, ty, pos, af, g⟩ e h = lenV (ev e x) := by
  show lenS P t x e h = _
  unfold isSl at hs
  unfold lenS
  split at hs
  · rename_i el hu
    rw [hu]
  · cases hs
theorem st_call (f : Operand) (args : Array Operand) (ts : Array TypeId) : stepOf P ⟨dst, .call ⟨.value f, args, ts⟩, ty, pos, af, g⟩ e h = callM P (args.toList.map (ev e)) (ev e f) := by
  show callS P f args e h = _
  unfold callS callM
  cases ev e f <;> rfl
def appendM (h : Heap) (s x : Value) : Option (Nat × Nat) → Option Res
  | some (sz, bytes) => appendV h sz bytes s (cellsOf h sz x)
  | none => none
theorem st_append (s x : Operand) (t t' : TypeId) (hs : isSl P t' = true) : stepOf P ⟨dst, .call ⟨.builtin .append, #[s, x], #[t, t']⟩, ty, pos, af, g⟩ e h = appendM h (ev e s) (ev e x) (apSz P t) := by
  show appendS P t t' s x e h = _
  unfold isSl at hs
  unfold appendS appendM apSz
  split at hs
  · rename_i el hu
    rw [hu]
    cases P.underlying t with
    | none => rfl
    | some u =>
      cases u <;> first | rfl | skip
      rename_i el'
      dsimp only
      cases P.info? el' with
      | none => rfl
      | some i =>
        dsimp only
        cases i.zero with
        | none => rfl
        | some z =>
          dsimp only
          cases (!Nat.beq i.size 0 && !Nat.beq i.bytes 0 && Nat.beq z.cells.size i.size) <;> rfl
  · cases hs
def allocM (h : Heap) : Option Value → Option Res
  | some z => boxV h z
  | none => none
theorem st_alloc (t : TypeId) : stepOf P ⟨dst, .alloc t, ty, pos, af, g⟩ e h = allocM h (zeroT P t) := by
  show allocS P t e h = _
  unfold allocS allocM zeroT
  cases (P.info? t).bind (·.zero) with
  | none => rfl
  | some z => dsimp only; cases flat z <;> rfl
theorem st_box (t : TypeId) (x : Operand) : stepOf P ⟨dst, .box t x, ty, pos, af, g⟩ e h = boxV h (ev e x) := rfl
def bsM (n : Nat) (h : Heap) (parts : List (Nat × Value)) : Option (Nat × Value) → Option Res
  | some (sz, z) => bif Nat.ble (n * sz) 16777216 then buildSliceV n (parts.all fun p => flat p.2) h (fillA (fun k => some (k * sz, sz)) (zeros z.cells (n * sz)) parts) else none
  | none => none
theorem st_buildSlice (t : TypeId) (n : Nat) (parts : Array (Nat × Operand)) (hs : (bsT P t).isSome = true) : stepOf P ⟨dst, .buildSlice t n parts, ty, pos, af, g⟩ e h = bsM n h (evParts e parts) (bsT P t) := by
  show buildSliceS P t n parts e h = _
  unfold bsT at hs ⊢
  unfold buildSliceS bsM
  cases hu : P.underlying t with
  | none => rfl
  | some u =>
    rw [hu] at hs
    cases u <;> first | rfl | skip
    rename_i el
    dsimp only at hs ⊢
    cases hi : P.info? el with
    | none => rfl
    | some i =>
      rw [hi] at hs
      dsimp only at hs ⊢
      cases hz : i.zero with
      | none => rfl
      | some z =>
        rw [hz] at hs
        dsimp only at hs ⊢
        cases hb : (Nat.ble i.size 64 && flat z && !Nat.beq i.size 0 && z.cells.toList.all plainCell)
        · rw [hb] at hs; cases hs
        · dsimp only [cond_true]
          simp only [Bool.and_eq_true] at hb
          cases Nat.ble (n * i.size) 16777216 <;> simp [hb.1.1.2, hb.1.2, hb.2, noS]
def buildM (parts : List (Nat × Value)) : Option (List (Nat × Nat) × Value) → Option Res
  | some (ps, z) => buildV (fillA (fun k => ps[k]?) z.cells parts)
  | none => none
theorem st_build (t : TypeId) (parts : Array (Nat × Operand)) (hs : (bT P t).isSome = true) : stepOf P ⟨dst, .build t parts, ty, pos, af, g⟩ e h = buildM (evParts e parts) (bT P t) := by
  show buildS P t parts e h = _
  unfold bT at hs ⊢
  unfold buildS buildM
  split at hs
  · rename_i fs z h1 h2
    rw [h1, h2]
    dsimp only
    cases places P fs with
    | none => rfl
    | some ps => dsimp only; cases flat z <;> rfl
  · cases hs

/-! ### Values -/
theorem ev_tmp (t : Tmp) : ev e (.tmp t) = e.get t := rfl
theorem ev_func (f : FuncId) : ev e (.func f) = .func (.func f) #[] #[] := rfl
theorem ev_int (k : IntKind) (n : Int) : ev e (.const (.int k n)) = .int k n := rfl
theorem ev_bool (b : Bool) : ev e (.const (.bool b)) = .bool b := rfl
theorem ev_str (s : ByteArray) : ev e (.const (.string s)) = .string s := rfl
theorem ev_nilsl (n c : Nat) : ev e (.const (.slice none n c)) = .slice none n c := rfl
theorem ev_nilptr : ev e (.const (.pointer none)) = .pointer none := rfl
theorem ev_nilfunc : ev e (.const .nilFunc) = .nilFunc := rfl
theorem ev_agg (cs : Array Value) : ev e (.const (.agg cs)) = bif cs.toList.all flatCell then .agg cs else unk := rfl
theorem pickV_bool (t : Bool) (x y : Value) : pickV (.bool t) x y = some (.val (bif t then x else y) [] .non) := rfl
theorem nilChk_ptr (a : Addr) : nilChk (.pointer (some a)) = some (.val (.pointer (some a)) [] .non) := rfl
theorem nilChk_func (f : FuncId) (xs ys : Array Value) : nilChk (.func (.func f) xs ys) = some (.val (.func (.func f) xs ys) [] .non) := rfl
theorem loadM_some (gg : Bool) (n : Nat) (p : Option (Nat × Nat)) : loadM (some gg) (some n) h p = loadV gg n h p := rfl
theorem loadV_some (gg : Bool) (n b o : Nat) : loadV gg n h (some (b, o)) = ((h.get b).bind (cellAt gg n o)).map fun v => .val v [b] .non := rfl
theorem cellAt_one (n o : Nat) (blk : Blk) : cellAt false n o blk = blk.cells[o]? := rfl
theorem cellAt_agg (n o : Nat) (blk : Blk) : cellAt true n o blk = (cut blk.cells o n).map fun cs => .agg cs.toArray := rfl
theorem storeM_some (n : Nat) (v : Value) (p : Option (Nat × Nat)) : storeM (some n) v h p = storeV n v h p := rfl
theorem storeV_some (n b o : Nat) (v : Value) : storeV n v h (some (b, o)) = ((h.get b).bind (storeB n o v)).map fun x => .unit [b] (.set b x) := rfl
theorem storeB_eq (n o : Nat) (v : Value) (cs : List Value) (fl ro : Bool) (gr : Option Nat) : storeB n o v ⟨cs, fl, ro, gr⟩ = bif !ro && Nat.beq v.cells.toList.length n && Nat.ble (o + n) cs.length && v.cells.toList.all plainCell then
    some ⟨putAll cs o v.cells.toList, fl && flat v, ro, gr⟩ else none := rfl
theorem fieldM_some (off : Nat) (p : Option (Nat × Nat)) : fieldM (some off) p = fieldV off p := rfl
theorem fieldV_some (off b o : Nat) : fieldV off (some (b, o)) = some (.val (.pointer (some ⟨b, o + off, none⟩)) [] .non) := rfl
theorem fieldOfM_some (gg : Bool) (off n : Nat) (v : Value) : fieldOfM (some (gg, off, n)) v = fieldOf gg off n v := rfl
theorem fieldOf_one (off n : Nat) (cs : Array Value) : fieldOf false off n (.agg cs) = (cs.toList[off]?).map fun v => .val v [] .non := by simp [fieldOf]
theorem fieldOf_agg (off n : Nat) (cs : Array Value) : fieldOf true off n (.agg cs) = ((cut cs.toList off n).map fun cs => Value.agg cs.toArray).map fun v => .val v [] .non := rfl
theorem extractM_tuple (vs : Array Value) (i : Nat) : extractM (.tuple vs) i = (vs.toList[i]?).map fun v => .val v [] .non := rfl
theorem callM_func (args : List Value) (f : FuncId) (xs ys : Array Value) : callM P args (.func (.func f) xs ys) = bif hasBody P f then some (.enter f (xs.toList ++ args ++ ys.toList)) else none := rfl
theorem indexM_some (t : TypeId) (i x : Value) (sz : Nat) : indexM P t i x (some sz) = indexV sz (asI i) (asSl x) := rfl
theorem indexV_eq (sz : Nat) (k : Int) (b o len c : Nat) : indexV sz (some k) (some (some (b, o), len, c)) = bif inRange k len then some (.val (.pointer (some ⟨b, o + k.toNat * sz, none⟩)) [] .non) else none := rfl
theorem sliceM_some (lo hi : Option Value) (x : Value) (sz : Nat) : sliceM h lo hi x (some sz) = sliceV h sz lo hi (asSl x) := rfl
theorem asPtr_ptr (b o : Nat) : asPtr (.pointer (some ⟨b, o, none⟩)) = some (b, o) := rfl
theorem asSl_sl (b o n c : Nat) : asSl (.slice (some ⟨b, o, none⟩) n c) = some (some (b, o), n, c) := rfl
theorem asSl_nil (n c : Nat) : asSl (.slice none n c) = some (none, n, c) := rfl
theorem asI_int (k : IntKind) (n : Int) : asI (.int k n) = some n := rfl
theorem asIK_int (k : IntKind) (n : Int) : asIK (.int k n) = some (k, n) := rfl
theorem inRange_nat {i len : Nat} (hh : i < len) : inRange (i : Int) len = true := Nat.ble_eq_true_of_le hh
theorem lenV_sl (a : Option Addr) (n c : Nat) : lenV (.slice a n c) = some (.val (.int .i64 n) [] .non) := rfl
theorem binI_some (op : BinOp) (k : IntKind) (a b : Int) : binI op (some (k, a)) (some (k, b)) = (abin op k a b).map fun v => .val v [] .non := by simp [binI]
theorem orElse_some (r : Res) (b : Unit → Option Res) : orElse (some r) b = some r := rfl
theorem abin_add (k : IntKind) (a b : Int) : abin .add k a b = some (.int k (wrapF k (a + b))) := rfl
theorem abin_sub (k : IntKind) (a b : Int) : abin .sub k a b = some (.int k (wrapF k (a - b))) := rfl
theorem abin_mul (k : IntKind) (a b : Int) : abin .mul k a b = some (.int k (wrapF k (a * b))) := rfl
theorem abin_quo (k : IntKind) (a b : Int) : abin .quo k a b = if b = 0 then none else some (.int k (wrapF k (a.tdiv b))) := rfl
theorem abin_rem (k : IntKind) (a b : Int) : abin .rem k a b = if b = 0 then none else some (.int k (a.tmod b)) := rfl
theorem abin_eql (k : IntKind) (a b : Int) : abin .eql k a b = some (.bool (decide (a = b))) := rfl
theorem abin_neq (k : IntKind) (a b : Int) : abin .neq k a b = some (.bool (!decide (a = b))) := rfl
theorem abin_lss (k : IntKind) (a b : Int) : abin .lss k a b = some (.bool (a < b)) := rfl
theorem abin_leq (k : IntKind) (a b : Int) : abin .leq k a b = some (.bool (a ≤ b)) := rfl
theorem abin_gtr (k : IntKind) (a b : Int) : abin .gtr k a b = some (.bool (b < a)) := rfl
theorem abin_geq (k : IntKind) (a b : Int) : abin .geq k a b = some (.bool (b ≤ a)) := rfl
theorem unV_not (o : Oper) (b : Bool) : unV P o e .not (.bool b) = some (.val (.bool !b) [] .non) := rfl
theorem unV_neg (o : Oper) (k : IntKind) (n : Int) : unV P o e .neg (.int k n) = some (.val (.int k (wrapF k (0 - n))) [] .non) := rfl
theorem isBool_t (b : Bool) : isBool true (.bool b) = some b := by cases b <;> rfl
theorem isBool_f (b : Bool) : isBool false (.bool b) = some (!b) := by cases b <;> rfl
theorem eff_non : h.eff .non = h := rfl
theorem eff_new (x : Blk) : h.eff (.new x) = h.alloc x := rfl
theorem eff_set (b : Nat) (x : Blk) : h.eff (.set b x) = h.set b x := rfl
theorem eff_mv (k : Nat) (x : Blk) : h.eff (.mv k x) = (h.kill k).alloc x := rfl
theorem get_alloc (x : Blk) (b : Nat) : (h.alloc x).get b = if b = h.next then some x else h.get b := by
  split
  · rename_i hb; subst hb; exact Heap.get_alloc_same h x
  · rename_i hb; exact Heap.get_alloc_ne h x hb
theorem get_set (x : Blk) (b c : Nat) : (h.set b x).get c = if b = c then some x else h.get c := by
  split
  · rename_i hb; subst hb; exact Heap.get_set_same h b x
  · rename_i hb; exact Heap.get_set_ne h x hb
theorem get_kill (b c : Nat) : (h.kill b).get c = if b = c then none else h.get c := by
  split
  · rename_i hb; subst hb; exact Heap.get_kill_same h b
  · rename_i hb; exact Heap.get_kill_ne h hb
theorem get_low (n b : Nat) : (h.low n).get b = h.get b := rfl
theorem next_low (n : Nat) : (h.low n).next = h.next := rfl
theorem wr_low (n : Nat) : (h.low n).wr = n := rfl
theorem allocM_some (z : Value) : allocM h (some z) = boxV h z := rfl
theorem boxV_eq (z : Value) : boxV h z = bif z.cells.toList.all plainCell then some (.val (.pointer (some ⟨h.next, 0, none⟩)) [] (.new ⟨z.cells.toList, flat z, false, none⟩)) else none := rfl
theorem ofList_nil (i : Nat) : Env.ofList [] i = .leaf := rfl
theorem ofList_cons (v : Value) (r : List Value) (i : Nat) : Env.ofList (v :: r) i = (Env.ofList r (i + 1)).set i v := rfl
theorem get_leaf (t : Tmp) : Env.get .leaf t = undef := by simp [Env.get, Tr.get_leaf]
theorem putAll_one (l : List Value) (o : Nat) (v : Value) (ho : o < l.length) : putAll l o [v] = l.set o v := by
  unfold putAll
  rw [List.set_eq_take_append_cons_drop, if_pos ho]
  simp
theorem cut1 (a : Value) : cut [a] 0 1 = some [a] := rfl
theorem cut2 (a b : Value) : cut [a, b] 0 2 = some [a, b] := rfl
theorem cut3 (a b c : Value) : cut [a, b, c] 0 3 = some [a, b, c] := rfl
theorem cut3_1 (a b c : Value) : cut [a, b, c] 1 2 = some [b, c] := rfl
theorem cells_agg (cs : Array Value) : (Value.agg cs).cells = cs := rfl
theorem cells_int (k : IntKind) (n : Int) : (Value.int k n).cells = #[.int k n] := rfl
theorem cells_bool (b : Bool) : (Value.bool b).cells = #[.bool b] := rfl
theorem cells_sl (a : Option Addr) (n c : Nat) : (Value.slice a n c).cells = #[.slice a n c] := rfl
theorem cells_ptr (a : Option Addr) : (Value.pointer a).cells = #[.pointer a] := rfl
theorem flat_agg_eq (cs : Array Value) : flat (.agg cs) = cs.toList.all flatCell := rfl
theorem flat_int (k : IntKind) (n : Int) : flat (.int k n) = true := rfl
theorem flat_bool (b : Bool) : flat (.bool b) = true := rfl
theorem flat_nilsl (n c : Nat) : flat (.slice none n c) = true := rfl
theorem flat_tuple_eq (cs : Array Value) : flat (.tuple cs) = (!cs.toList.isEmpty && cs.toList.all flat1) := rfl
theorem flat1_int (k : IntKind) (n : Int) : flat1 (.int k n) = true := rfl
theorem flat1_bool (b : Bool) : flat1 (.bool b) = true := rfl
theorem flat1_agg (cs : Array Value) : flat1 (.agg cs) = cs.toList.all flatCell := rfl
theorem flatCell_int (k : IntKind) (n : Int) : flatCell (.int k n) = true := rfl
theorem flatCell_bool (b : Bool) : flatCell (.bool b) = true := rfl
theorem plain_int (k : IntKind) (n : Int) : plainCell (.int k n) = true := rfl
theorem plain_bool (b : Bool) : plainCell (.bool b) = true := rfl
theorem plain_ptr (a : Option Addr) : plainCell (.pointer a) = true := rfl
theorem plain_sl (a : Option Addr) (n c : Nat) : plainCell (.slice a n c) = true := rfl
end
end
end Go.Am
