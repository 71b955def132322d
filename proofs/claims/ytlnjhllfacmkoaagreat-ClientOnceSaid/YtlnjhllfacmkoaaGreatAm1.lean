/- An abstract machine for programs of the model: deterministic, without a tape, over a heap of its own. Its definitions. -/
import GoSem.Dispatch
import GoSem.Machine.Return
import Derived.Orders
set_option linter.unusedVariables false
namespace Go.Am
noncomputable section

/-! ### Maps from numbers -/
inductive Tr (α : Type) where
  | leaf
  | node (v : Option α) (l r : Tr α)
def Tr.val {α : Type} : Tr α → Option α
  | .leaf => none
  | .node v _ _ => v
def Tr.left {α : Type} : Tr α → Tr α
  | .leaf => .leaf
  | .node _ l _ => l
def Tr.right {α : Type} : Tr α → Tr α
  | .leaf => .leaf
  | .node _ _ r => r
/-- the way to a key -/
def way : Nat → Nat → List Bool
  | 0, _ => []
  | f + 1, k => @Bool.rec (fun _ => List Bool) (Nat.beq (Nat.mod k 2) 1 :: way f (Nat.div (Nat.sub k 1) 2)) [] (Nat.beq k 0)
def Tr.atW {α : Type} (p : List Bool) : Tr α → Option α :=
  @List.rec Bool (fun _ => Tr α → Option α) Tr.val (fun b _ ih t => ih (@Bool.rec (fun _ => Tr α) t.right t.left b)) p
def Tr.putW {α : Type} (x : Option α) (p : List Bool) : Tr α → Tr α :=
  @List.rec Bool (fun _ => Tr α → Tr α) (fun t => .node x t.left t.right) (fun b _ ih t => @Bool.rec (fun _ => Tr α) (.node t.val t.left (ih t.right)) (.node t.val (ih t.left) t.right) b) p
def Tr.getF {α : Type} (k : Nat) (t : Tr α) : Option α := Tr.atW (way k k) t
def Tr.putF {α : Type} (x : Option α) (k : Nat) (t : Tr α) : Tr α := Tr.putW x (way k k) t

/-! ### The heap: blocks of cells. 'ro': memory that came in, never written. 'grow': slices of this block may have more room than is known, their elements take so many cells. -/
structure Blk where
  cells : List Value
  flat : Bool
  ro : Bool
  grow : Option Nat
/-- 'wr': no block below it has been written since the call began -/
structure Heap where
  blks : Tr Blk
  next : Nat
  wr : Nat
def Heap.get (h : Heap) (b : Nat) : Option Blk := Tr.getF b h.blks
def Heap.alloc (h : Heap) (x : Blk) : Heap := ⟨Tr.putF (some x) h.next h.blks, h.next + 1, h.wr⟩
def Heap.set (h : Heap) (b : Nat) (x : Blk) : Heap := ⟨Tr.putF (some x) b h.blks, h.next, if b < h.wr then b else h.wr⟩
def Heap.kill (h : Heap) (b : Nat) : Heap := ⟨Tr.putF none b h.blks, h.next, if b < h.wr then b else h.wr⟩
def Heap.low (h : Heap) (n : Nat) : Heap := ⟨h.blks, h.next, n⟩
def heap0 : Heap := ⟨.leaf, 0, 0⟩

/-! ### Values -/
/-- no address in it, and one cell -/
def flatCell : Value → Bool
  | .bool _ | .int _ _ | .float _ _ | .complex _ _ _ | .string _ | .pointer none | .slice none _ _ | .map none | .chan none | .nilFunc | .nilIface => true
  | _ => false
def flat1 : Value → Bool
  | .agg cs => cs.toList.all flatCell
  | v => flatCell v
def flat : Value → Bool
  | .tuple cs => !cs.toList.isEmpty && cs.toList.all flat1
  | v => flat1 v
/-- a value of which nothing is known -/
def unk : Value := .chan (some 0)
def plainCell : Value → Bool
  | .agg _ | .tuple _ | .chan (some _) => false
  | _ => true
/-- an address: block and offset -/
def asPtr : Value → Option (Nat × Nat)
  | .pointer (some ⟨b, o, none⟩) => some (b, o)
  | _ => none
def asSl : Value → Option (Option (Nat × Nat) × Nat × Nat)
  | .slice none len cap => some (none, len, cap)
  | .slice (some ⟨b, o, none⟩) len cap => some (some (b, o), len, cap)
  | _ => none
def asI : Value → Option Int
  | .int _ k => some k
  | _ => none
def asIK : Value → Option (IntKind × Int)
  | .int k n => some (k, n)
  | _ => none
/-- a comparison with nil, by the type's kind -/
def nilEq (u : Option TypeDesc) (x y : Value) : Option Bool :=
  match u, x, y with
  | some (.pointer _), .pointer none, .pointer b => some b.isNone
  | some (.pointer _), .pointer (some _), .pointer none => some false
  | some (.slice _), .slice none _ _, .slice b _ _ => some b.isNone
  | some (.slice _), .slice (some _) _ _, .slice none _ _ => some false
  | some (.map _ _), .map none, .map b => some b.isNone
  | some (.map _ _), .map (some _), .map none => some false
  | some (.func _ _ _), .func _ _ _, .nilFunc => some false
  | some (.func _ _ _), .nilFunc, .func _ _ _ => some false
  | some (.interface _), .iface _ _, .nilIface => some false
  | some (.interface _), .nilIface, .iface _ _ => some false
  | _, _, _ => none

/-! ### The slots -/
abbrev Env := Tr Value
def Env.get (e : Env) (t : Tmp) : Value := (Tr.getF t e).getD undef
def Env.set (e : Env) (t : Tmp) (v : Value) : Env := Tr.putF (some v) t e
def Env.put (e : Env) (d : Option Tmp) (v : Value) : Env := match d with | some t => e.set t v | none => e
def Env.ofList : List Value → Nat → Env
  | [], _ => .leaf
  | v :: r, i => (Env.ofList r (i + 1)).set i v
def ev (e : Env) : Operand → Value
  | .tmp t => e.get t
  | .const v => bif flat v then v else unk
  | .global _ => unk
  | .func f => .func (.func f) #[] #[]

/-! ### What an operation does -/
inductive Eff where
  | non
  | new (x : Blk)
  | set (b : Nat) (x : Blk)
  | mv (k : Nat) (x : Blk)
def Heap.eff (h : Heap) : Eff → Heap
  | .non => h
  | .new x => h.alloc x
  | .set b x => h.set b x
  | .mv k x => (h.kill k).alloc x
inductive Res where
  | val (v : Value) (rd : List Nat) (f : Eff)
  | unit (rd : List Nat) (f : Eff)
  | enter (f : FuncId) (args : List Value)
abbrev Step := Env → Heap → Option Res

/-- the model's own text, run without a world -/
def pureRun {α : Type} (P : Program) : Sem α → Option α
  | .pure a => some a
  | .program k => pureRun P (k P)
  | .mark _ k => pureRun P k
  | _ => none
def asValue : Option Next → Option Res
  | some (.value v) => bif flat v then some (.val v [] .non) else none
  | _ => none
def pureS (P : Program) (o : Oper) : Step := fun e h =>
  bif o.op.operands.toList.all fun x => flat (ev e x) then asValue (pureRun P (execOp (ev e) o)) else none

def wrapF (k : IntKind) (n : Int) : Int :=
  match k, n with
  | .i64, .ofNat m => bif Nat.ble m 9223372036854775807 then .ofNat m else k.wrap n
  | .i64, .negSucc m => bif Nat.ble m 9223372036854775807 then .negSucc m else k.wrap n
  | _, _ => k.wrap n
/-- two whole numbers of one kind -/
def abin (op : BinOp) (k : IntKind) (a b : Int) : Option Value :=
  match op with
  | .add => some (.int k (wrapF k (a + b)))
  | .sub => some (.int k (wrapF k (a - b)))
  | .mul => some (.int k (wrapF k (a * b)))
  | .quo => if b = 0 then none else some (.int k (wrapF k (a.tdiv b)))
  | .rem => if b = 0 then none else some (.int k (a.tmod b))
  | .eql => some (.bool (a == b))
  | .neq => some (.bool (a != b))
  | .lss => some (.bool (a < b))
  | .leq => some (.bool (a ≤ b))
  | .gtr => some (.bool (b < a))
  | .geq => some (.bool (b ≤ a))
  | _ => none

def noS : Step := fun _ _ => none
def moveS (x : Operand) : Step := fun e h => some (.val (ev e x) [] .non)
def pickS (c a b : Operand) : Step := fun e h => match ev e c with
  | .bool t => some (.val (bif t then ev e a else ev e b) [] .non)
  | _ => none
def newBlk (cs : List Value) (fl : Bool) (g : Option Nat) : Eff := .new ⟨cs, fl, false, g⟩
def boxV (h : Heap) (z : Value) : Option Res := bif z.cells.toList.all plainCell then some (.val (.pointer (some ⟨h.next, 0, none⟩)) [] (newBlk z.cells.toList (flat z) none)) else none
def allocS (P : Program) (t : TypeId) : Step := match (P.info? t).bind (·.zero) with
  | some z => bif flat z then fun _ h => boxV h z else noS
  | none => noS
def boxS (x : Operand) : Step := fun e h => boxV h (ev e x)
def aggT (P : Program) (t : TypeId) : Option Bool := (P.underlying t).map fun | .struct _ | .array _ _ => true | _ => false
def szOf (P : Program) (t : TypeId) : Option Nat := (P.info? t).map (·.size)

/-- a part of a row of cells -/
def cut (l : List Value) (off n : Nat) : Option (List Value) := bif Nat.ble (off + n) l.length then some ((l.drop off).take n) else none
def putAll (l : List Value) (off : Nat) (vs : List Value) : List Value := l.take off ++ vs ++ l.drop (off + vs.length)

def buildSliceV (n : Nat) (fl : Bool) (h : Heap) : Option (Array Value) → Option Res
  | some cs => bif cs.toList.all plainCell then some (.val (.slice (some ⟨h.next, 0, none⟩) n n) [] (newBlk cs.toList fl none)) else none
  | none => none
def zeros (z : Array Value) (n : Nat) : Array Value := (Array.range n).map (z[· % z.size]!)
def fillA (place : Nat → Option (Nat × Nat)) (cells : Array Value) (ps : List (Nat × Value)) : Option (Array Value) :=
  bif ps.all fun p => p.2.cells.toList.all plainCell then Instr.fill place cells ps else none
def evParts (e : Env) (parts : Array (Nat × Operand)) : List (Nat × Value) := parts.toList.map fun p => (p.1, ev e p.2)
def buildSliceS (P : Program) (t : TypeId) (n : Nat) (parts : Array (Nat × Operand)) : Step :=
  match P.underlying t with
  | some (.slice el) => match P.info? el with
    | some i => match i.zero with
      | some z => bif Nat.ble (n * i.size) 16777216 && flat z && !Nat.beq i.size 0 && z.cells.toList.all plainCell then fun e h =>
          buildSliceV n ((evParts e parts).all fun p => flat p.2) h (fillA (fun k => some (k * i.size, i.size)) (zeros z.cells (n * i.size)) (evParts e parts))
        else noS
      | none => noS
    | none => noS
  | _ => noS
def buildV : Option (Array Value) → Option Res
  | some cs => bif cs.toList.all plainCell then some (.val (.agg cs) [] .non) else none
  | none => none
def places (P : Program) (fs : Array Field) : Option (List (Nat × Nat)) := fs.toList.mapM fun f => (szOf P f.type).map fun n => (f.offset, n)
def buildS (P : Program) (t : TypeId) (parts : Array (Nat × Operand)) : Step :=
  match P.underlying t, (P.info? t).bind (·.zero) with
  | some (.struct fs), some z => match places P fs with
    | some ps => bif flat z then fun e _ => buildV (fillA (fun k => ps[k]?) z.cells (evParts e parts)) else noS
    | none => noS
  | some (.array _ el), some z => match szOf P el with
    | some n => bif flat z then fun e _ => buildV (fillA (fun k => some (k * n, n)) z.cells (evParts e parts)) else noS
    | none => noS
  | _, _ => noS

def cellAt (g : Bool) (n : Nat) (o : Nat) (blk : Blk) : Option Value :=
  bif g then (cut blk.cells o n).map fun cs => .agg cs.toArray else blk.cells[o]?
def loadV (g : Bool) (n : Nat) (h : Heap) : Option (Nat × Nat) → Option Res
  | some (b, o) => ((h.get b).bind (cellAt g n o)).map fun v => .val v [b] .non
  | none => none
def loadS (P : Program) (t : TypeId) (a : Operand) : Step :=
  match aggT P t, szOf P t with
  | some g, some n => fun e h => loadV g n h (asPtr (ev e a))
  | _, _ => noS
def storeB (n o : Nat) (v : Value) (blk : Blk) : Option Blk :=
  bif !blk.ro && Nat.beq v.cells.toList.length n && Nat.ble (o + n) blk.cells.length && v.cells.toList.all plainCell then
    some ⟨putAll blk.cells o v.cells.toList, blk.flat && flat v, blk.ro, blk.grow⟩
  else none
def storeV (n : Nat) (v : Value) (h : Heap) : Option (Nat × Nat) → Option Res
  | some (b, o) => ((h.get b).bind (storeB n o v)).map fun x => .unit [b] (.set b x)
  | none => none
def storeS (P : Program) (t : TypeId) (a x : Operand) : Step :=
  match szOf P t with
  | some n => fun e h => storeV n (ev e x) h (asPtr (ev e a))
  | none => noS
def nilCheckS (x : Operand) : Step := fun e h => match ev e x with
  | .pointer (some a) => some (.val (.pointer (some a)) [] .non)
  | .func (.func g) first captured => some (.val (.func (.func g) first captured) [] .non)
  | .iface t v => some (.val (.iface t v) [] .non)
  | _ => none
def fieldV (off : Nat) : Option (Nat × Nat) → Option Res
  | some (b, o) => some (.val (.pointer (some ⟨b, o + off, none⟩)) [] .non)
  | none => none
def fieldAddrS (P : Program) (s : TypeId) (x : Operand) (f : Nat) : Step :=
  match P.underlying s with
  | some (.struct fields) => match fields[f]? with
    | some fd => match szOf P fd.type with
      | some n => bif Nat.beq n 0 then noS else fun e h => fieldV fd.offset (asPtr (ev e x))
      | none => noS
    | none => noS
  | _ => noS
def fieldOf (g : Bool) (off n : Nat) : Value → Option Res
  | .agg cs => (bif g then (cut cs.toList off n).map fun cs => Value.agg cs.toArray else cs[off]?).map fun v => .val v [] .non
  | _ => none
def fieldS (P : Program) (s : TypeId) (x : Operand) (f : Nat) : Step :=
  match P.underlying s with
  | some (.struct fields) => match fields[f]? with
    | some fd => match aggT P fd.type, szOf P fd.type with
      | some g, some n => fun e _ => fieldOf g fd.offset n (ev e x)
      | _, _ => noS
    | none => noS
  | _ => noS
def inRange (k : Int) (n : Nat) : Bool := match k with
  | .ofNat m => Nat.blt m n
  | .negSucc _ => false
def indexV (sz : Nat) : Option Int → Option (Option (Nat × Nat) × Nat × Nat) → Option Res
  | some k, some (some (b, o), len, _) => bif inRange k len then some (.val (.pointer (some ⟨b, o + k.toNat * sz, none⟩)) [] .non) else none
  | _, _ => none
def indexAddrS (P : Program) (t : TypeId) (x i : Operand) : Step :=
  match P.underlying t with
  | some (.slice el) => match szOf P el with
    | some sz => fun e h => indexV sz (asI (ev e i)) (asSl (ev e x))
    | none => noS
  | some (.array len el) => match szOf P el with
    | some sz => fun e h => indexV sz (asI (ev e i)) ((asPtr (ev e x)).map fun p => (some p, len, len))
    | none => noS
  | _ => noS
def cutAt (cap dflt : Nat) : Option Value → Option Nat
  | none => some dflt
  | some (.int _ (.ofNat m)) => bif Nat.ble m cap then some m else none
  | _ => none
/-- room to grow is counted in elements of one size: a slice of such a block is cut in those alone -/
def growOk (h : Heap) (sz b : Nat) : Option Bool := match h.get b with
  | some blk => match blk.grow with
    | some g => bif Nat.beq g sz then some false else none
    | none => some true
  | none => none
def sliceV (h : Heap) (sz : Nat) (lo hi : Option Value) : Option (Option (Nat × Nat) × Nat × Nat) → Option Res
  | some (a, len, cap) => (cutAt cap len hi).bind fun ih => (cutAt ih 0 lo).bind fun il =>
    bif Nat.ble ih cap then match a with
    | none => some (.val (.slice none (ih - il) (cap - il)) [] .non)
    | some (b, o) => (growOk h sz b).bind fun exact =>
      bif Nat.beq il cap then bif exact then some (.val (.slice (some ⟨b, o, none⟩) (ih - il) (cap - il)) [b] .non) else none
      else some (.val (.slice (some ⟨b, o + il * sz, none⟩) (ih - il) (cap - il)) [b] .non)
    else none
  | none => none
def sliceS (P : Program) (o : Oper) (t : TypeId) (x : Operand) (lo hi : Option Operand) : Step :=
  match P.underlying t with
  | some (.slice el) => match szOf P el with
    | some sz => fun e h => sliceV h sz (lo.map (ev e)) (hi.map (ev e)) (asSl (ev e x))
    | none => noS
  | some .string => pureS P o
  | _ => noS
def nilV (op : BinOp) : Option Bool → Option Res
  | some b => match op with
    | .eql => some (.val (.bool b) [] .non)
    | .neq => some (.val (.bool !b) [] .non)
    | _ => none
  | none => none
def binV (P : Program) (o : Oper) (op : BinOp) (t : TypeId) (e : Env) (x y : Value) : Option Res :=
  bif flat x && flat y then asValue (pureRun P (execOp (ev e) o)) else nilV op (nilEq (P.underlying t) x y)
def binI (op : BinOp) : Option (IntKind × Int) → Option (IntKind × Int) → Option Res
  | some (k, a), some (k', b) => bif decide (k = k') then (abin op k a b).map fun v => .val v [] .non else none
  | _, _ => none
def orElse (a : Option Res) (b : Unit → Option Res) : Option Res := match a with
  | some r => some r
  | none => b ()
def binS (P : Program) (o : Oper) (op : BinOp) (t : TypeId) (x y : Operand) : Step := fun e h =>
  orElse (binI op (asIK (ev e x)) (asIK (ev e y))) fun _ => binV P o op t e (ev e x) (ev e y)
def unV (P : Program) (o : Oper) (e : Env) (op : UnOp) : Value → Option Res
  | .bool b => match op with
    | .not => some (.val (.bool !b) [] .non)
    | _ => none
  | .int k n => match op with
    | .neg => some (.val (.int k (wrapF k (0 - n))) [] .non)
    | _ => asValue (pureRun P (execOp (ev e) o))
  | v => bif flat v then asValue (pureRun P (execOp (ev e) o)) else none
def unS (P : Program) (o : Oper) (op : UnOp) (x : Operand) : Step := fun e h => unV P o e op (ev e x)
def extractS (t : Operand) (i : Nat) : Step := fun e h => match ev e t with
  | .tuple vs => (vs[i]?).map fun v => .val v [] .non
  | _ => none
def lenV : Value → Option Res
  | .slice _ n _ => some (.val (.int .i64 n) [] .non)
  | _ => none
def lenStr : Value → Option Res
  | .string s => some (.val (.int .i64 s.size) [] .non)
  | _ => none
def lenS (P : Program) (t : TypeId) (x : Operand) : Step := match P.underlying t with
  | some .string => fun e _ => lenStr (ev e x)
  | some (.slice _) => fun e _ => lenV (ev e x)
  | _ => noS

/-- the cells of what is appended: the block read, the cells, whether flat, how many elements -/
def cellsOf (h : Heap) (sz : Nat) : Value → Option (List Nat × List Value × Bool × Nat)
  | .slice none n _ => bif Nat.beq n 0 then some ([], [], true, 0) else none
  | .slice (some ⟨b, o, none⟩) n _ => (h.get b).bind fun blk => (cut blk.cells o (n * sz)).map fun cs => ([b], cs, blk.flat, n)
  | _ => none
def appendTo (h : Heap) (sz bytes : Nat) (s : Value) (rd : List Nat) (cs : List Value) (fl : Bool) (n : Nat) : Option Res :=
  match s with
  | .slice none len cap => bif Nat.beq len 0 && Nat.beq cap 0 then
      bif Nat.beq n 0 then some (.val s rd .non)
      else bif Nat.ble (n * bytes) 140737488355328 then some (.val (.slice (some ⟨h.next, 0, none⟩) n n) rd (newBlk cs fl (some sz))) else none
    else none
  | .slice (some ⟨b, o, none⟩) len cap =>
    (h.get b).bind fun blk =>
      bif Nat.beq n 0 then bif Nat.ble len cap then some (.val s (b :: rd) .non) else none
      else bif Nat.ble (len + n) cap then
        bif !blk.ro && Nat.ble (o + (len + n) * sz) blk.cells.length then
          some (.val (.slice (some ⟨b, o, none⟩) (len + n) cap) (b :: rd) (.set b ⟨putAll blk.cells (o + len * sz) cs, blk.flat && fl, blk.ro, blk.grow⟩))
        else none
      else bif Nat.ble ((len + n) * bytes) 140737488355328 then
        (cut blk.cells o (len * sz)).bind fun old =>
          match blk.grow with
          | none => some (.val (.slice (some ⟨h.next, 0, none⟩) (len + n) (len + n)) (b :: rd) (newBlk (old ++ cs) (blk.flat && fl) (some sz)))
          | some g => bif Nat.beq g sz && !blk.ro then some (.val (.slice (some ⟨h.next, 0, none⟩) (len + n) (len + n)) (b :: rd) (.mv b ⟨old ++ cs, blk.flat && fl, false, some sz⟩)) else none
      else none
  | _ => none
def appendV (h : Heap) (sz bytes : Nat) (s : Value) : Option (List Nat × List Value × Bool × Nat) → Option Res
  | some (rd, cs, fl, n) => appendTo h sz bytes s rd cs fl n
  | none => none
def appendS (P : Program) (t t' : TypeId) (s x : Operand) : Step :=
  match P.underlying t', P.underlying t with
  | some (.slice _), some (.slice el) => match P.info? el with
    | some i => match i.zero with
      | some z => bif !Nat.beq i.size 0 && !Nat.beq i.bytes 0 && Nat.beq z.cells.size i.size then fun e h => appendV h i.size i.bytes (ev e s) (cellsOf h i.size (ev e x)) else noS
      | none => noS
    | none => noS
  | _, _ => noS

/-- a new row of zeros -/
def makeV (sz bytes : Nat) (z : Array Value) (h : Heap) : Option Int → Option Int → Option Res
  | some (.ofNat l), some (.ofNat c) => bif Nat.ble l c && Nat.ble (c * bytes) 16777216 && Nat.ble (c * sz) 16777216 && Nat.ble c 16777216 then
      some (.val (.slice (some ⟨h.next, 0, none⟩) l c) [] (newBlk (zeros z (c * sz)).toList true none)) else none
  | _, _ => none
def makeSliceS (P : Program) (t : TypeId) (l c : Operand) : Step :=
  match P.underlying t with
  | some (.slice el) => match P.info? el with
    | some i => match i.zero with
      | some z => bif flat z && !Nat.beq i.size 0 && z.cells.toList.all plainCell && Nat.beq z.cells.size i.size then fun e h => makeV i.size i.bytes z.cells h (asI (ev e l)) (asI (ev e c)) else noS
      | none => noS
    | none => noS
  | _ => noS
/-- what is read first is written: as many elements as both have -/
def copyV (sz : Nat) (h : Heap) (d : Value) : Option (List Nat × List Value × Bool × Nat) → Option Res
  | some (rd, cs, fl, n) => match d with
    | .slice none len _ => bif Nat.beq len 0 then some (.val (.int .i64 0) rd .non) else none
    | .slice (some ⟨b, o, none⟩) len _ => (h.get b).bind fun blk => (cut cs 0 (Nat.min n len * sz)).bind fun cs' =>
        bif !blk.ro && Nat.ble (o + Nat.min n len * sz) blk.cells.length && Nat.ble (Nat.min n len) 9223372036854775807 then
          some (.val (.int .i64 (Nat.min n len : Nat)) (b :: rd) (.set b ⟨putAll blk.cells o cs', blk.flat && fl, blk.ro, blk.grow⟩))
        else none
    | _ => none
  | none => none
def copyS (P : Program) (t t' : TypeId) (d x : Operand) : Step :=
  match P.underlying t', P.underlying t with
  | some (.slice _), some (.slice el) => match szOf P el with
    | some sz => bif Nat.beq sz 0 then noS else fun e h => copyV sz h (ev e d) (cellsOf h sz (ev e x))
    | none => noS
  | _, _ => noS
def makeFuncS (f : FuncId) (first captured : Array Operand) : Step := fun e _ => some (.val (.func (.func f) (first.map (ev e)) (captured.map (ev e))) [] .non)

def intsA : List Value → Option (List Int)
  | [] => some []
  | .int .u8 n :: r => (intsA r).map fun l => n :: l
  | _ :: _ => none
def bytesA (cs : List Value) : Option ByteArray := (intsA cs).map fun xs => ⟨(xs.map fun n => UInt8.ofNat n.toNat).toArray⟩
def convB (h : Heap) : Value → Option Res
  | .slice none _ _ => some (.val (.string .empty) [] .non)
  | .slice (some ⟨b, o, none⟩) n _ => (h.get b).bind fun blk => (cut blk.cells o n).bind fun cs => (bytesA cs).map fun s => .val (.string s) [b] .non
  | _ => none
def isBytes (P : Program) (src dst : TypeId) : Bool := match P.underlying src, P.underlying dst with
  | some (.slice e), some .string => match P.underlying e with
    | some (.int .u8) => true
    | _ => false
  | _, _ => false
def convertS (P : Program) (o : Oper) (src dst : TypeId) (x : Operand) : Step := bif isBytes P src dst then fun e h => convB h (ev e x) else pureS P o

def hasBody (P : Program) (g : FuncId) : Bool := match P.funcs[g]? with
  | some fn => fn.body.isSome && fn.name != "runtime.NumGoroutine"
  | none => false
def callS (P : Program) (f : Operand) (args : Array Operand) : Step := fun e _ => match ev e f with
  | .func (.func g) first captured => bif hasBody P g then some (.enter g (first.toList ++ args.toList.map (ev e) ++ captured.toList)) else none
  | _ => none
def builtinS (P : Program) (o : Oper) (args : Array Operand) (argTypes : Array TypeId) : Builtin → Step
  | .len => match args.toList, argTypes.toList with
    | [x], [t] => lenS P t x
    | _, _ => noS
  | .append => match args.toList, argTypes.toList with
    | [s, x], [t, t'] => appendS P t t' s x
    | _, _ => noS
  | .max | .min => pureS P o
  | .copy => match args.toList, argTypes.toList with
    | [d, x], [t, t'] => copyS P t t' d x
    | _, _ => noS
  | _ => noS
def callOp (P : Program) (o : Oper) (c : Call) : Step := match c.callee with
  | .value f => callS P f c.args
  | .builtin b => builtinS P o c.args c.argTypes b
  | _ => noS
/-- one operation -/
def stepOf (P : Program) (o : Oper) : Step :=
  match o.op with
  | .move x | .assign x => moveS x
  | .pick c a b => pickS c a b
  | .alloc t => allocS P t
  | .box _ x => boxS x
  | .build t parts => buildS P t parts
  | .buildSlice t n parts => buildSliceS P t n parts
  | .load t a => loadS P t a
  | .store t a x => storeS P t a x
  | .nilCheck x => nilCheckS x
  | .fieldAddr s x f => fieldAddrS P s x f
  | .field s x f => fieldS P s x f
  | .indexAddr t x i => indexAddrS P t x i
  | .slice t x lo hi none => sliceS P o t x lo hi
  | .binOp op t x y _ => binS P o op t x y
  | .unOp op _ x => unS P o op x
  | .extract t i => extractS t i
  | .makeSlice t l c => makeSliceS P t l c
  | .makeFunc (.func f) first captured => makeFuncS f first captured
  | .call c => callOp P o c
  | .convert src dst x => convertS P o src dst x
  | .index .. => pureS P o
  | _ => noS

def isBool (want : Bool) : Value → Option Bool
  | .bool b => some (b == want)
  | .chan _ => none
  | _ => some false
def wantedA (ops : List Oper) (o : Oper) : Env → Option Bool :=
  match o.guard with
  | none => fun _ => some true
  | some (j, want) => match (ops[j]?).bind (·.dst) with
    | some d => fun e => isBool want (e.get d)
    | none => fun _ => some false

/-- what an operation may touch: 0 nothing, 1 it makes memory, 2 it reads, 3 whatever -/
def kindOf : Op → Nat
  | .move _ | .assign _ | .pick _ _ _ | .nilCheck _ | .fieldAddr _ _ _ | .field _ _ _ | .indexAddr _ _ _ | .binOp _ _ _ _ _ | .unOp _ _ _ | .extract _ _ | .index _ _ _ | .build _ _ => 0
  | .call ⟨.builtin .len, _, _⟩ | .call ⟨.builtin .max, _, _⟩ | .call ⟨.builtin .min, _, _⟩ => 0
  | .alloc _ | .box _ _ | .buildSlice _ _ _ => 1
  | .load _ _ | .slice _ _ _ _ _ | .convert _ _ _ => 2
  | _ => 3

/-! ### What an operation of a region whose order is open has touched -/
structure Foot where
  all : Bool
  wild : Bool
  lo : Nat
  hi : Nat
  rd : List Nat
  wr : List Nat
def Eff.wr : Eff → List Nat
  | .set b _ | .mv b _ => [b]
  | _ => []
def Eff.isNew : Eff → Bool
  | .new _ | .mv _ _ => true
  | _ => false
def Foot.mk1 (h : Heap) (rd : List Nat) (f : Eff) : Foot := ⟨false, false, h.next, (h.eff f).next, rd, f.wr⟩
def foot0 (h : Heap) : Foot := ⟨false, false, h.next, h.next, [], []⟩
def apartL (a b : List Nat) : Bool := a.all fun x => b.all fun y => !Nat.beq x y
/-- the earlier one and the later one may change places -/
def pairOk (a b : Foot) : Bool :=
  !a.wild && !b.wild && apartL a.wr (b.rd ++ b.wr) && apartL b.wr (a.rd ++ a.wr) && (!a.all || b.wr.isEmpty) && (!b.all || (a.wr.isEmpty && Nat.beq a.lo a.hi))
    && (b.rd ++ b.wr).all fun x => Nat.blt x a.lo || Nat.ble a.hi x
def quietFoot (a : Foot) : Bool := !a.wild && a.wr.isEmpty && Nat.beq a.lo a.hi
def drawOk (d : Option (List (Nat × Nat))) (fs : List Foot) : Bool :=
  match d with
  | none => fs.all quietFoot
  | some ps => ps.all fun p => match fs[p.1]?, fs[p.2]? with
    | some a, some b => pairOk a b
    | _, _ => false

abbrev CallF := FuncId → List Value → Heap → Option (Value × Heap × Bool)
def next (cf : CallF) (dst : Option Tmp) (k : Env → Heap → Option (Env × Heap)) (e : Env) (h : Heap) : Option Res → Option (Env × Heap)
  | some (.val v _ f) => k (e.put dst v) (h.eff f)
  | some (.unit _ f) => k (e.put dst undef) (h.eff f)
  | some (.enter f args) => match cf f args h with
    | some (v, h', _) => k (e.put dst v) h'
    | none => none
  | none => none
def op1 (P : Program) (cf : CallF) (all : List Oper) (o : Oper) (k : Env → Heap → Option (Env × Heap)) : Env → Heap → Option (Env × Heap) := fun e h =>
  match wantedA all o e with
  | some true => next cf o.dst k e h (stepOf P o e h)
  | some false => k (e.put o.dst undef) h
  | none => none
def ops (P : Program) (cf : CallF) (all : List Oper) : List Oper → Env → Heap → Option (Env × Heap)
  | [] => fun e h => some (e, h)
  | o :: rest => op1 P cf all o (ops P cf all rest)
/-- one operation, and what it has touched -/
def opF (P : Program) (cf : CallF) (all : List Oper) (o : Oper) (e : Env) (h : Heap) : Option (Env × Heap × Foot) :=
  match wantedA all o e with
  | some true => match stepOf P o e h with
    | some (.val v rd f) => some (e.put o.dst v, h.eff f, Foot.mk1 h rd f)
    | some (.unit rd f) => some (e.put o.dst undef, h.eff f, Foot.mk1 h rd f)
    | some (.enter f args) => match cf f args h with
      | some (v, h', q) => some (e.put o.dst v, h', ⟨true, !q, h.next, h'.next, [], []⟩)
      | none => none
    | none => none
  | some false => some (e.put o.dst undef, h, foot0 h)
  | none => none
def opsF (P : Program) (cf : CallF) (all : List Oper) : List Oper → Env → Heap → Option (Env × Heap × List Foot)
  | [], e, h => some (e, h, [])
  | o :: rest, e, h => match opF P cf all o e h with
    | some (e, h, f) => match opsF P cf all rest e h with
      | some (e, h, fs) => some (e, h, f :: fs)
      | none => none
    | none => none

inductive AExit where
  | normal | exit (id : Nat) | ret
abbrev Out := Option (AExit × Env × Heap)
def seqK (k : Env → Heap → Out) : Out → Out
  | some (.normal, e, h) => k e h
  | r => r
def condK (t f : Env → Heap → Out) (e : Env) (h : Heap) : Value → Out
  | .bool b => (bif b then t else f) e h
  | _ => none
def blockK (id : Nat) : Out → Out
  | some (.exit id', e, h) => bif Nat.beq id' id then some (.normal, e, h) else some (.exit id', e, h)
  | r => r
def regK : Option (Env × Heap) → Out
  | some (e, h) => some (.normal, e, h)
  | none => none
def drawK (d : Option (List (Nat × Nat))) : Option (Env × Heap × List Foot) → Out
  | some (e, h, fs) => bif drawOk d fs then some (.normal, e, h) else none
  | none => none
abbrev Draws := Nat → Option (List (Nat × Nat))
def exec (P : Program) (D : Draws) (cf : CallF) : Nat → Code → Env → Heap → Out
  | 0, _ => fun _ _ => none
  | n + 1, c => match c with
    | .skip | .label _ => fun e h => some (.normal, e, h)
    | .ret => fun e h => some (.ret, e, h)
    | .exit id => fun e h => some (.exit id, e, h)
    | .seq a b => fun e h => seqK (exec P D cf n b) (exec P D cf n a e h)
    | .cond c t f => fun e h => condK (exec P D cf n t) (exec P D cf n f) e h (ev e c)
    | .block id b => fun e h => blockK id (exec P D cf n b e h)
    | .loop b => fun e h => seqK (exec P D cf n (.loop b)) (exec P D cf n b e h)
    | .scope b => exec P D cf n b
    | .region _ os false => fun e h => regK (ops P cf os.toList os.toList e h)
    | .region id os true => fun e h => drawK (D id) (opsF P cf os.toList os.toList e h)
    | _ => fun _ _ => none

def resCell (P : Program) (h : Heap) (t : TypeId) : Option (Nat × Nat) → Option Value
  | some (b, o) => match aggT P t, szOf P t with
    | some g, some n => (h.get b).bind (cellAt g n o)
    | _, _ => none
  | none => none
def resultA (P : Program) (e : Env) (h : Heap) : ResultVar → Option Value
  | .tmp t => some (e.get t)
  | .cell a t => resCell P h t (asPtr (e.get a))
def resultsA (P : Program) (e : Env) (h : Heap) : List ResultVar → Option (List Value)
  | [] => some []
  | r :: rest => (resultA P e h r).bind fun v => (resultsA P e h rest).map fun vs => v :: vs
def packR : List Value → Value
  | [v] => v
  | vs => .tuple vs.toArray

/-! ### Leaving a call: what nobody can reach any more is dropped -/
/-- the block that one part of a result refers to, if it is new -/
def newRef (base : Nat) : Value → List Nat
  | .slice (some ⟨b, _, _⟩) _ _ => bif Nat.ble base b then [b] else []
  | .pointer (some ⟨b, _, _⟩) => bif Nat.ble base b then [b] else []
  | _ => []
def renRef (base b b' : Nat) (c : Nat) : Nat := bif Nat.beq c b then b' else c
/-- one new flat block is kept, under a new number -/
def ren1 (base b b' : Nat) : Value → Option Value
  | .slice (some ⟨c, o, none⟩) n k => bif Nat.blt c base then some (.slice (some ⟨c, o, none⟩) n k) else bif Nat.beq c b then some (.slice (some ⟨b', o, none⟩) n k) else none
  | .pointer (some ⟨c, o, none⟩) => bif Nat.blt c base then some (.pointer (some ⟨c, o, none⟩)) else bif Nat.beq c b then some (.pointer (some ⟨b', o, none⟩)) else none
  | v => bif flat v then some v else none
def renAll (base b b' : Nat) : List Value → Option (List Value)
  | [] => some []
  | v :: r => (ren1 base b b' v).bind fun v => (renAll base b b' r).map fun r => v :: r
def keepNew (h h1 : Heap) (vs : List Value) (b : Nat) : Option (List Value × Heap) :=
  match h1.get b with
  | some blk => bif blk.flat then (renAll h.next b h.next vs).map fun vs => (vs, h.alloc blk) else none
  | none => none
def dropNew (h h1 : Heap) (vs : List Value) : Option (List Value × Heap) :=
  bif vs.all flat then some (vs, h)
  else match vs.flatMap (newRef h.next) with
    | [] => (renAll h.next h.next h.next vs).map fun vs => (vs, h)
    | b :: _ => keepNew h h1 vs b
/-- h: the heap at the begin of the call; h1: at its end -/
def leave (h h1 : Heap) (vs : List Value) : Value × Heap × Bool :=
  bif Nat.beq h1.wr h.next then
    match dropNew h h1 vs with
    | some (vs, h') => (packR vs, h', true)
    | none => (packR vs, h1.low h.wr, true)
  else (packR vs, h1.low (if h1.wr < h.wr then h1.wr else h.wr), false)
def doneK (P : Program) (fn : Func) (h : Heap) : Out → Option (Value × Heap × Bool)
  | some (.normal, e', h') | some (.ret, e', h') => (resultsA P e' h' fn.results.toList).map (leave h h')
  | _ => none
def call (P : Program) (H : FuncId → Draws) : Nat → CallF
  | 0 => fun _ _ _ => none
  | n + 1 => fun f args h => match P.funcs[f]? with
    | none => none
    | some fn => match fn.body with
      | none => none
      | some c => doneK P fn h (exec P (H f) (call P H n) n c (Env.ofList args 0) (h.low h.next))
end
end Go.Am
