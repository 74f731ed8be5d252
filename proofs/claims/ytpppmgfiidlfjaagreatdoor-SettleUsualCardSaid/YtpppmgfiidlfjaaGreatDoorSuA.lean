/-
  The ideal machine: values, a heap of numbered blocks, operations, code, calls, ranges over functions; regions whose order is drawn are run in the order of the text and checked.
-/
import Derived.Calls
import Derived.Orders
set_option linter.unusedSimpArgs false
set_option linter.unusedVariables false
set_option linter.unusedSectionVars false
namespace Go.Proofs.YtpppmgfiidlfjaaGreatDoor.Sim
noncomputable section

def bitsF : Nat → Nat → List Bool
  | 0, _ => []
  | f + 1, n => if n = 0 then [] else (n % 2 == 1) :: bitsF f (n / 2)
def bits (n : Nat) : List Bool := bitsF n n

inductive Tr (α : Type) where
  | e
  | n (v : Option α) (l r : Tr α)

def Tr.get {α : Type} (t : Tr α) : List Bool → Option α :=
  Tr.rec (motive := fun _ => List Bool → Option α) (fun _ => none)
    (fun v _ _ gl gr p => List.rec (motive := fun _ => Option α) v (fun b p _ => Bool.rec (gr p) (gl p) b) p) t

def Tr.set {α : Type} (x : α) (p : List Bool) : Tr α → Tr α :=
  List.rec (motive := fun _ => Tr α → Tr α)
    (fun t => Tr.rec (motive := fun _ => Tr α) (.n (some x) .e .e) (fun _ l r _ _ => .n (some x) l r) t)
    (fun b _ ih t => Tr.rec (motive := fun _ => Tr α)
      (Bool.rec (.n none .e (ih .e)) (.n none (ih .e) .e) b)
      (fun v l r _ _ => Bool.rec (.n v l (ih r)) (.n v (ih l) r) b) t) p

/-- Ideal values. -/
inductive IV where
  | b (x : Bool) | i (k : IntKind) (n : Int) | s (x : ByteArray)
  | p0 | p (k o : Nat) | g (b o : Nat)
  | s0 | sl (k o len cap : Nat) (ex : Bool) (sz : Nat)
  | m0 | m (k : Nat)
  | f0 | fn (f : Fn) (first cap : List IV)
  | i0 | ifc (t : TypeId) (v : IV)
  | yl (k : Nat)
  | agg (l : List IV) | tup (l : List IV)
  deriving Inhabited

def IV.cells : IV → List IV
  | .agg l => l
  | v => [v]

/-- A loop over a function that is under way: the frame's temporaries at its entry, the code, whether a round has left it, by which jump. -/
structure ILoop where
  n : Nat
  T : Tr IV
  params : List Tmp
  assign : Code
  body : Code
  state : LoopState
  pending : Option Code

inductive IObj where
  | cells (mate : Option Nat) (c : List IV)
  | map (es : List (IV × IV))
  | loop (r : ILoop)
  | dead

structure IH where
  h : Tr IObj
  nx : Nat
  /-- what package-level variables hold that are only read -/
  gl : Tr (List IV)

def IH.get (H : IH) (k : Nat) : Option IObj := H.h.get (bits k)
def IH.put (H : IH) (k : Nat) (o : IObj) : IH := ⟨H.h.set o (bits k), H.nx, H.gl⟩
def IH.new (H : IH) (o : IObj) : IH := ⟨H.h.set o (bits H.nx), H.nx + 1, H.gl⟩
def IH.kill (H : IH) : Option Nat → IH
  | none => H
  | some k => H.put k .dead

/-- What the ideal machine needs of a type. -/
inductive Ty where
  | int (k : IntKind) | bool | str | slice (e : TypeId) | arr (n : Nat) (e : TypeId) | struct (fs : List (TypeId × Nat))
  | map (key elem : TypeId) | ptr (e : TypeId) | other
structure TI where
  ty : Ty
  size : Nat
  bytes : Nat
  zero : Option IV
  /-- a struct that may be compared field by field -/
  eq : Bool

def TI.isAgg (t : TI) : Bool := match t.ty with | .struct _ | .arr .. => true | _ => false

mutual
def ofVal : Value → Option IV
  | .bool b => some (.b b)
  | .int k n => some (.i k n)
  | .string s => some (.s s)
  | .pointer none => some .p0
  | .slice none 0 0 => some .s0
  | .map none => some .m0
  | .nilFunc => some .f0
  | .nilIface => some .i0
  | .func f a c => match a.toList, c.toList with | [], [] => some (.fn f [] []) | _, _ => none
  | .agg ⟨l⟩ => (ofVals l).map .agg
  | .tuple ⟨l⟩ => (ofVals l).map .tup
  | _ => none
def ofVals : List Value → Option (List IV)
  | [] => some []
  | v :: l => (ofVal v).bind fun x => (ofVals l).map (x :: ·)
end

abbrev TM := Tr IV
def TM.at (T : TM) (t : Nat) : IV := (T.get (bits t)).getD (.tup [])

def evalO (T : TM) : Operand → Option IV
  | .tmp t => some (T.at t)
  | .const v => ofVal v
  | .global g => some (.g g 0)
  | .func f => some (.fn (.func f) [] [])

def evals (T : TM) (l : List Operand) : Option (List IV) :=
  List.rec (motive := fun _ => Option (List IV)) (some []) (fun x _ ih => (evalO T x).bind fun v => ih.map (v :: ·)) l

def takeN (l : List IV) (n : Nat) : Option (List IV) :=
  Nat.rec (motive := fun _ => List IV → Option (List IV)) (fun _ => some [])
    (fun _ ih l => List.rec (motive := fun _ => Option (List IV)) none (fun x l _ => (ih l).map (x :: ·)) l) n l

/-- The cells from one on, so many. -/
def sub (l : List IV) (o n : Nat) : Option (List IV) :=
  Nat.rec (motive := fun _ => List IV → Option (List IV)) (fun l => takeN l n)
    (fun _ ih l => List.rec (motive := fun _ => Option (List IV)) none (fun _ l _ => ih l) l) o l

def IH.cellsAt (H : IH) (k off n : Nat) : Option (List IV) :=
  (H.get k).bind fun
    | .cells _ c => sub c off n
    | _ => none

def one : List IV → Option IV
  | [v] => some v
  | _ => none

def asOne (ti : TI) (l : List IV) : Option IV := bif ti.isAgg then some (.agg l) else one l

def iload (ti : TI) (H : IH) : IV → Option IV
  | .p k o => (H.cellsAt k o ti.size).bind (asOne ti)
  | .g b o => (H.gl.get (bits b)).bind fun c => (sub c o ti.size).bind (asOne ti)
  | _ => none

def IV.single : IV → Bool
  | .agg _ | .tup _ => false
  | _ => true

def over (c l : List IV) : Option (List IV) :=
  List.rec (motive := fun _ => List IV → Option (List IV)) (fun c => some c)
    (fun v _ ih c => List.rec (motive := fun _ => Option (List IV)) none (fun _ c _ => (ih c).map (v :: ·)) c) l c

/-- Cells written over others from one on. -/
def splice (c : List IV) (o : Nat) (l : List IV) : Option (List IV) :=
  Nat.rec (motive := fun _ => List IV → Option (List IV)) (fun c => over c l)
    (fun _ ih c => List.rec (motive := fun _ => Option (List IV)) none (fun x c _ => (ih c).map (x :: ·)) c) o c

def IH.write (H : IH) (k off : Nat) (l : List IV) : Option IH :=
  (H.get k).bind fun
    | .cells mate c => bif l.all IV.single then (splice c off l).map fun c' => (H.kill mate).put k (.cells none c') else none
    | _ => none

def istore (ti : TI) (H : IH) (a v : IV) : Option IH :=
  match a with
  | .p k o => bif Nat.beq v.cells.length ti.size then H.write k o v.cells else none
  | _ => none

def fillOne (cells : List IV) (v : IV) (k : List IV → Option (List IV)) (p : Nat × Nat) : Option (List IV) :=
  bif Nat.beq v.cells.length p.2 then (splice cells p.1 v.cells).bind k else none

def fillI (place : Nat → Option (Nat × Nat)) (cells : List IV) (l : List (Nat × IV)) : Option (List IV) :=
  List.rec (motive := fun _ => List IV → Option (List IV)) (fun cells => some cells)
    (fun x _ ih cells => (place x.1).bind (fillOne cells x.2 ih)) l cells

def evalParts (T : TM) (l : List (Nat × Operand)) : Option (List (Nat × IV)) :=
  List.rec (motive := fun _ => Option (List (Nat × IV))) (some []) (fun x _ ih => (evalO T x.2).bind fun v => ih.map ((x.1, v) :: ·)) l

def reps (n : Nat) (l : List IV) : List IV := match n with | 0 => [] | n + 1 => l ++ reps n l

/-- The bound of the numbers from 0 on. -/
def lim : IntKind → Nat
  | .i8 => 128 | .i16 => 32768 | .i32 => 2147483648 | .i64 => 9223372036854775808
  | .u8 => 256 | .u16 => 65536 | .u32 => 4294967296 | .u64 => 18446744073709551616

/-- 'wrap', quickly. -/
def wrapI (k : IntKind) (n : Int) : Int :=
  match n with
  | .ofNat a => bif Nat.blt a (lim k) then .ofNat a else k.wrap (.ofNat a)
  | .negSucc a => bif k.signed && Nat.blt a (lim k) then .negSucc a else k.wrap (.negSucc a)

def ltI : Int → Int → Bool
  | .ofNat a, .ofNat b => Nat.blt a b
  | .negSucc _, .ofNat _ => true
  | .ofNat _, .negSucc _ => false
  | .negSucc a, .negSucc b => Nat.blt b a

def eqI : Int → Int → Bool
  | .ofNat a, .ofNat b => Nat.beq a b
  | .negSucc a, .negSucc b => Nat.beq a b
  | _, _ => false

def andI (k : IntKind) (a b : Int) : Int :=
  match a, b with
  | .ofNat x, .ofNat y => bif Nat.blt x (lim k) && Nat.blt y (lim k) then .ofNat (Nat.land x y) else k.wrap ((BitVec.ofInt k.bits a &&& BitVec.ofInt k.bits b).toNat)
  | a, b => k.wrap ((BitVec.ofInt k.bits a &&& BitVec.ofInt k.bits b).toNat)

def orI (k : IntKind) (a b : Int) : Int :=
  match a, b with
  | .ofNat x, .ofNat y => bif Nat.blt x (lim k) && Nat.blt y (lim k) then .ofNat (Nat.lor x y) else k.wrap ((BitVec.ofInt k.bits a ||| BitVec.ofInt k.bits b).toNat)
  | a, b => k.wrap ((BitVec.ofInt k.bits a ||| BitVec.ofInt k.bits b).toNat)

def xorI (k : IntKind) (a b : Int) : Int := k.wrap ((BitVec.ofInt k.bits a ^^^ BitVec.ofInt k.bits b).toNat)

/-- The bits turned round. -/
def notI (k : IntKind) (n : Int) : Int :=
  match k, n with
  | .i64, .ofNat a => bif Nat.blt a (lim .i64) then .negSucc a else xorI .i64 (-1) (.ofNat a)
  | k, n => xorI k (if k.signed then -1 else k.max) n

def ipart (fi : TI) (cs : List IV) (off : Nat) : Option IV :=
  (sub cs off fi.size).bind (asOne fi)

variable (ty : TypeId → Option TI)

def eqFieldsI (eq : TypeId → IV → IV → Option Bool) (xs ys : List IV) (fs : List (TypeId × Nat)) : Option Bool :=
  List.rec (motive := fun _ => Option Bool) (some true) (fun f _ ih => (ty f.1).bind fun fi => (ipart fi xs f.2).bind fun vx => (ipart fi ys f.2).bind fun vy =>
    (eq f.1 vx vy).bind fun r => bif r then ih else some false) fs

def eqAs (eq : TypeId → IV → IV → Option Bool) (ti : TI) (x y : IV) : Option Bool :=
  match ti.ty, x, y with
  | .bool, .b a, .b b => some (a == b)
  | .int _, .i k a, .i k' b => if k = k' then some (eqI a b) else none
  | .str, .s a, .s b => some (a.toList == b.toList)
  | .ptr _, .p0, .p0 => some true
  | .ptr _, .p0, .p _ _ => some false
  | .ptr _, .p _ _, .p0 => some false
  | .slice _, .s0, .s0 => some true
  | .slice _, .s0, .sl .. => some false
  | .slice _, .sl .., .s0 => some false
  | .map .., .m0, .m0 => some true
  | .map .., .m0, .m _ => some false
  | .map .., .m _, .m0 => some false
  | .struct fs, .agg xs, .agg ys => bif ti.eq then eqFieldsI ty eq xs ys fs else none
  | _, _, _ => none

def equalI : Nat → TypeId → IV → IV → Option Bool
  | 0, _, _, _ => none
  | d + 1, t, x, y => (ty t).bind fun ti => eqAs ty (equalI d) ti x y

def ibinInt (op : BinOp) (k : IntKind) (a b : Int) : Option IV :=
  match op with
  | .add => some (.i k (wrapI k (a + b)))
  | .sub => some (.i k (wrapI k (a - b)))
  | .mul => some (.i k (wrapI k (a * b)))
  | .quo => bif eqI b 0 then none else some (.i k (wrapI k (a.tdiv b)))
  | .rem => bif eqI b 0 then none else some (.i k (a.tmod b))
  | .and => some (.i k (andI k a b))
  | .or => some (.i k (orI k a b))
  | .xor => some (.i k (xorI k a b))
  | .eql => some (.b (eqI a b))
  | .neq => some (.b (!eqI a b))
  | .lss => some (.b (ltI a b))
  | .leq => some (.b (!ltI b a))
  | .gtr => some (.b (ltI b a))
  | .geq => some (.b (!ltI a b))
  | _ => none

def ibinStr (op : BinOp) (a b : ByteArray) : Option IV :=
  match op with
  | .add => if ((a.size + b.size : Nat) : Int) > IntKind.i64.max then none else some (.s (a ++ b))
  | .eql => some (.b (a.toList == b.toList))
  | .neq => some (.b (!(a.toList == b.toList)))
  | .lss => some (.b (Op.bytesLess a.toList b.toList))
  | .leq => some (.b (Op.bytesLess a.toList b.toList || a.toList == b.toList))
  | .gtr => some (.b (!(Op.bytesLess a.toList b.toList || a.toList == b.toList)))
  | .geq => some (.b (!Op.bytesLess a.toList b.toList))
  | _ => none

def ibinEq (op : BinOp) (t : TypeId) (x y : IV) : Option IV :=
  match op with
  | .eql => (equalI ty 20 t x y).map .b
  | .neq => (equalI ty 20 t x y).map fun b => .b (!b)
  | _ => none

def ibin (op : BinOp) (t : TypeId) (x y : IV) : Option IV :=
  match x, y with
  | .i k a, .i k' b => if k = k' then ibinInt op k a b else none
  | .s a, .s b => ibinStr op a b
  | x, y => ibinEq ty op t x y

def iun (op : UnOp) (x : IV) : Option IV :=
  match op, x with
  | .neg, .i k n => some (.i k (wrapI k (0 - n)))
  | .not, .b b => some (.b (!b))
  | .xor, .i k n => some (.i k (notI k n))
  | _, _ => none

def iconv (src dst : TypeId) (x : IV) : Option IV :=
  (ty src).bind fun si => (ty dst).bind fun di =>
    match si.ty, di.ty, x with
    | _, .int k, .i _ n => some (.i k (wrapI k n))
    | _, .str, .s s => some (.s s)
    | _, _, _ => none

def ifield (t : TypeId) (x : IV) (f : Nat) : Option IV :=
  (ty t).bind fun ti => match ti.ty, x with
    | .struct fs, .agg cs => (fs[f]?).bind fun (ft, off) => (ty ft).bind fun fi => ipart fi cs off
    | _, _ => none

def ifieldAddr (t : TypeId) (x : IV) (f : Nat) : Option IV :=
  (ty t).bind fun ti => match ti.ty, x with
    | .struct fs, .p k o => (fs[f]?).bind fun (ft, off) => (ty ft).bind fun fi => bif Nat.beq fi.size 0 then none else some (.p k (o + off))
    | _, _ => none

def iindexAddr (t : TypeId) (x i : IV) : Option IV :=
  (ty t).bind fun ti => match ti.ty, x, i with
    | .arr n e, .p k o, .i _ (.ofNat j) => (ty e).bind fun ei => bif Nat.blt j n then some (.p k (o + j * ei.size)) else none
    | .arr n e, .g b o, .i _ (.ofNat j) => (ty e).bind fun ei => bif Nat.blt j n then some (.g b (o + j * ei.size)) else none
    | .slice e, .sl k o len _ _ sz, .i _ (.ofNat j) => (ty e).bind fun ei => bif Nat.blt j len && Nat.beq ei.size sz then some (.p k (o + j * sz)) else none
    | _, _, _ => none

def iindex (t : TypeId) (x i : IV) : Option IV :=
  (ty t).bind fun ti => match ti.ty, x, i with
    | .arr n e, .agg cs, .i _ (.ofNat j) => (ty e).bind fun ei => bif Nat.blt j n then ipart ei cs (j * ei.size) else none
    | .str, .s s, .i _ (.ofNat j) => (s.data.toList[j]?).map fun c => .i .u8 c.toNat
    | _, _, _ => none

def ibound (v : IV) (y : Nat) : Option Nat :=
  match v with
  | .i _ (.ofNat j) => bif Nat.ble j y then some j else none
  | _ => none

def mxOf (mx : Option IV) (cap : Nat) : Option (Option Nat) :=
  match mx with | some v => (ibound v cap).map some | none => some none
def hiOf (hi : Option IV) (m : Option Nat) (cap len : Nat) : Option Nat :=
  match hi with | some v => ibound v (m.getD cap) | none => match m with | some _ => none | none => some len
def loOf (lo : Option IV) (h : Nat) : Option Nat :=
  match lo with | some v => ibound v h | none => some 0

def isliceStr (s : ByteArray) (lo hi : Option IV) : Option IV :=
  (hiOf hi none s.size s.size).bind fun h => (loOf lo h).bind fun l => some (.s (s.extract l h))
def isliceSl (k o len cap : Nat) (ex : Bool) (sz : Nat) (lo hi mx : Option IV) : Option IV :=
  (mxOf mx cap).bind fun m => (hiOf hi m cap len).bind fun h => (loOf lo h).bind fun l =>
    match m with
    | some m => some (.sl k (if m = l then o else o + l * sz) (h - l) (m - l) true sz)
    | none =>
      if ex then some (.sl k (if cap = l then o else o + l * sz) (h - l) (cap - l) true sz)
      else if l = 0 then some (.sl k o h cap false sz)
      else if l < cap then some (.sl k (o + l * sz) (h - l) (cap - l) false sz) else none

def islice (es : Option Nat) (x : IV) (lo hi mx : Option IV) : Option IV :=
  match x, mx with
  | .s s, none => isliceStr s lo hi
  | .s0, mx => (mxOf mx 0).bind fun m => (hiOf hi m 0 0).bind fun h => (loOf lo h).bind fun _ => some .s0
  | .sl k o len cap ex sz, mx => if es = some sz then isliceSl k o len cap ex sz lo hi mx else none
  | _, _ => none

def keyEq : IV → IV → Option Bool
  | .i k a, .i k' b => if k = k' then some (eqI a b) else none
  | .s a, .s b => some (a == b)
  | .b a, .b b => some (a == b)
  | _, _ => none

def ifind (key : IV) : List (IV × IV) → Nat → Option (Option (Nat × IV))
  | [], _ => some none
  | (k, v) :: es, i => (keyEq key k).bind fun r => if r then some (some (i, v)) else ifind key es (i + 1)

def plainKey (kt : Ty) (key : IV) : Bool :=
  match kt, key with
  | .int _, .i .. => true
  | .str, .s _ => true
  | .bool, .b _ => true
  | _, _ => false

def setAt : List (IV × IV) → Nat → IV × IV → List (IV × IV)
  | [], _, _ => []
  | _ :: l, 0, x => x :: l
  | y :: l, n + 1, x => y :: setAt l n x

def imapUpdate (t : TypeId) (H : IH) (m key v : IV) : Option IH :=
  (ty t).bind fun ti => match ti.ty, m with
    | .map kt _, .m r => (ty kt).bind fun ki => if plainKey ki.ty key then
        (H.get r).bind fun
          | .map es => (ifind key es 0).bind fun
            | some (i, _) => some (H.put r (.map (setAt es i (key, v))))
            | none => some (H.put r (.map (es ++ [(key, v)])))
          | _ => none
        else none
    | _, _ => none

def ilookup (t : TypeId) (H : IH) (m key : IV) (ok : Bool) : Option IV :=
  (ty t).bind fun ti => match ti.ty with
    | .map kt et => (ty kt).bind fun ki => (ty et).bind fun ei => if plainKey ki.ty key then
        (match m with
          | .m0 => some []
          | .m r => (H.get r).bind fun | .map es => some es | _ => none
          | _ => none).bind fun es =>
        (ifind key es 0).bind fun r =>
          match r with
          | some (_, v) => some (bif ok then .tup [v, .b true] else v)
          | none => ei.zero.map fun z => bif ok then .tup [z, .b false] else z
        else none
    | _ => none

def ilen (t : TypeId) (H : IH) (x : IV) : Option IV :=
  (ty t).bind fun ti => match ti.ty, x with
    | .str, .s s => some (.i .i64 s.size)
    | .arr n _, _ => some (.i .i64 n)
    | .slice _, .s0 => some (.i .i64 0)
    | .slice _, .sl _ _ len _ _ _ => some (.i .i64 len)
    | .map .., .m0 => some (.i .i64 0)
    | .map .., .m r => (H.get r).bind fun | .map es => some (.i .i64 es.length) | _ => none
    | _, _ => none

def icap (t : TypeId) (x : IV) : Option IV :=
  (ty t).bind fun ti => match ti.ty, x with
    | .slice _, .s0 => some (.i .i64 0)
    | .slice _, .sl _ _ _ cap true _ => some (.i .i64 cap)
    | _, _ => none

def imax (f : Int → Int → Int) : IV → List IV → Option IV
  | v, [] => some v
  | .i k a, .i _ b :: l => imax f (.i k (f a b)) l
  | _, _ => none

/-- The cells of what is appended. -/
def isrc (H : IH) (ei : TI) (zeros : Bool) (x : IV) : Option (Nat × List IV) :=
  match zeros, x with
  | true, .i _ (.ofNat n) => bif Nat.ble (n * (ei.bytes + 1)) 1048576 then ei.zero.map fun z => (n, reps n z.cells) else none
  | false, .s0 => some (0, [])
  | false, .sl k o len _ _ sz => bif Nat.beq sz ei.size then (H.cellsAt k o (len * ei.size)).map fun l => (len, l) else none
  | _, _ => none

/-- An append that makes a new row for sure. -/
def appendNew (H : IH) (sz : Nat) (need : Nat) (c : List IV) : Option (IV × IH) :=
  some (.sl H.nx 0 need need false sz, H.new (.cells none c))

/-- An append that may lie in the old row or in a new one. -/
def appendMay (H : IH) (sz need k : Nat) (mate : Option Nat) (c row : List IV) : Option (IV × IH) :=
  some (.sl H.nx 0 need need false sz, ((H.kill mate).put k (.cells (some H.nx) c)).new (.cells (some k) row))

def appendSl (H : IH) (ei : TI) (n : Nat) (new : List IV) (k o len cap : Nat) (ex : Bool) : Option (IV × IH) :=
  bif Nat.ble (len + n) cap then
    (H.write k (o + len * ei.size) new).map fun H' => (.sl k o (len + n) cap ex ei.size, H')
  else bif Nat.ble ((len + n) * (ei.bytes + 1)) 1048576 then
    (H.get k).bind fun
      | .cells mate c => (sub c o (len * ei.size)).bind fun old =>
        bif ex then appendNew H ei.size (len + n) (old ++ new)
        else bif Nat.beq (o + len * ei.size) c.length then appendMay H ei.size (len + n) k mate c (old ++ new)
        else none
      | _ => none
  else none

def append0 (H : IH) (ei : TI) (n : Nat) (new : List IV) : Option (IV × IH) :=
  bif Nat.beq n 0 then some (.s0, H)
  else bif Nat.ble (n * (ei.bytes + 1)) 1048576 then appendNew H ei.size n new
  else none

def appendTo (H : IH) (ei : TI) (s : IV) (x : Nat × List IV) : Option (IV × IH) :=
  bif x.2.all IV.single then
    match s with
    | .s0 => append0 H ei x.1 x.2
    | .sl k o len cap ex sz => bif Nat.beq sz ei.size then appendSl H ei x.1 x.2 k o len cap ex else none
    | _ => none
  else none

def iappend (t : TypeId) (zeros : Bool) (H : IH) (s x : IV) : Option (IV × IH) :=
  (ty t).bind fun ti => match ti.ty with
    | .slice e => (ty e).bind fun ei => ei.zero.bind fun z =>
      bif Nat.beq z.cells.length ei.size && Nat.blt 0 ei.size then (isrc H ei zeros x).bind (appendTo H ei s) else none
    | _ => none

def iclear (t : TypeId) (H : IH) (x : IV) : Option IH :=
  (ty t).bind fun ti => match ti.ty, x with
    | .slice _, .s0 => some H
    | .slice e, .sl k o len _ _ sz => (ty e).bind fun ei => ei.zero.bind fun z =>
      bif Nat.beq len 0 then some H
      else bif Nat.beq sz ei.size && Nat.beq z.cells.length sz then H.write k o (reps len z.cells) else none
    | _, _ => none

def imakeSlice (t : TypeId) (H : IH) (l c : IV) : Option (IV × IH) :=
  (ty t).bind fun ti => match ti.ty, l, c with
    | .slice e, .i _ (.ofNat l), .i _ (.ofNat c) => (ty e).bind fun ei => ei.zero.bind fun z =>
      bif Nat.ble l c && Nat.ble (c * (ei.bytes + 1)) 1048576 && Nat.beq z.cells.length ei.size && Nat.blt 0 ei.size && z.cells.all IV.single then
        some (.sl H.nx 0 l c true ei.size, H.new (.cells none (reps c z.cells)))
      else none
    | _, _, _ => none

/-- Where the fields of a struct lie. -/
def placesOf (fs : List (TypeId × Nat)) : Option (List (Nat × Nat)) :=
  List.rec (motive := fun _ => Option (List (Nat × Nat))) (some []) (fun f _ ih => (ty f.1).bind fun fi => ih.map ((f.2, fi.size) :: ·)) fs

def place (l : List (Nat × Nat)) (i : Nat) : Option (Nat × Nat) := l[i]?
def placeArr (sz : Nat) (i : Nat) : Option (Nat × Nat) := some (i * sz, sz)

def ibuild (t : TypeId) (parts : List (Nat × IV)) : Option IV :=
  (ty t).bind fun ti => ti.zero.bind fun z => match ti.ty with
    | .struct fs => (placesOf ty fs).bind fun ps => (fillI (place ps) z.cells parts).map .agg
    | .arr _ e => (ty e).bind fun ei => (fillI (placeArr ei.size) z.cells parts).map .agg
    | _ => none

def ibuildSlice (t : TypeId) (H : IH) (len : Nat) (parts : List (Nat × IV)) : Option (IV × IH) :=
  (ty t).bind fun ti => match ti.ty with
    | .slice e => (ty e).bind fun ei => ei.zero.bind fun z =>
      bif Nat.ble (len * ei.size) 1048576 && Nat.beq z.cells.length ei.size && Nat.blt 0 ei.size then
      (fillI (placeArr ei.size) (reps len z.cells) parts).bind fun c =>
        bif c.all IV.single then some (.sl H.nx 0 len len true ei.size, H.new (.cells none c)) else none
      else none
    | _ => none

def optEval (T : TM) : Option Operand → Option (Option IV)
  | none => some none
  | some x => (evalO T x).map some

section ops
variable (T : TM) (H : IH)
def pureV (r : Option IV) : Option (IV × IH) := r.map fun x => (x, H)
def unitV (r : Option IH) : Option (IV × IH) := r.map fun H' => (.tup [], H')
def oPick (c a b : Operand) : Option (IV × IH) := (evalO T c).bind fun
    | .b x => bif x then pureV H (evalO T a) else pureV H (evalO T b)
    | _ => none
def oAlloc (t : TypeId) : Option (IV × IH) := (ty t).bind fun ti => ti.zero.bind fun z => bif z.cells.all IV.single then some (.p H.nx 0, H.new (.cells none z.cells)) else none
def oBox (x : Operand) : Option (IV × IH) := (evalO T x).bind fun x => bif x.cells.all IV.single then some (.p H.nx 0, H.new (.cells none x.cells)) else none
def oBuild (t : TypeId) (parts : List (Nat × Operand)) : Option (IV × IH) := (evalParts T parts).bind fun ps => pureV H (ibuild ty t ps)
def oBuildSlice (t : TypeId) (len : Nat) (parts : List (Nat × Operand)) : Option (IV × IH) := (evalParts T parts).bind fun ps => ibuildSlice ty t H len ps
def oLoad (t : TypeId) (a : Operand) : Option (IV × IH) := (ty t).bind fun ti => (evalO T a).bind fun a => pureV H (iload ti H a)
def oStore (t : TypeId) (a x : Operand) : Option (IV × IH) := (ty t).bind fun ti => (evalO T a).bind fun a => (evalO T x).bind fun x => unitV (istore ti H a x)
def oNilCheck (x : Operand) : Option (IV × IH) := (evalO T x).bind fun
    | .p k o => some (.p k o, H)
    | .g b o => some (.g b o, H)
    | .fn (.func f) a c => some (.fn (.func f) a c, H)
    | _ => none
def oBin (op : BinOp) (t : TypeId) (x y : Operand) : Option (IV × IH) := (evalO T x).bind fun x => (evalO T y).bind fun y => pureV H (ibin ty op t x y)
def oUn (op : UnOp) (x : Operand) : Option (IV × IH) := (evalO T x).bind fun x => pureV H (iun op x)
def oConv (s d : TypeId) (x : Operand) : Option (IV × IH) := (evalO T x).bind fun x => pureV H (iconv ty s d x)
def oMakeFunc (fn : Fn) (a c : List Operand) : Option (IV × IH) := (evals T a).bind fun a => (evals T c).bind fun c => some (.fn fn a c, H)
def oMakeMap : Option Operand → Option (IV × IH)
  | none => some (.m H.nx, H.new (.map []))
  | some _ => none
def oMakeSlice (t : TypeId) (l c : Operand) : Option (IV × IH) := (evalO T l).bind fun l => (evalO T c).bind fun c => imakeSlice ty t H l c
def kindOk : Option Nat → IV → Bool
  | none, .s _ => true
  | some _, .s0 => true
  | some _, .sl .. => true
  | _, _ => false
def oSliceK (es : Option Nat) (x : Operand) (lo hi mx : Option Operand) : Option (IV × IH) :=
  (evalO T x).bind fun x => (optEval T lo).bind fun lo => (optEval T hi).bind fun hi => (optEval T mx).bind fun mx => bif kindOk es x then pureV H (islice es x lo hi mx) else none
def oSlice (t : TypeId) (x : Operand) (lo hi mx : Option Operand) : Option (IV × IH) := (ty t).bind fun ti => match ti.ty with
    | .str => oSliceK T H none x lo hi mx
    | .slice e => (ty e).bind fun ei => oSliceK T H (some ei.size) x lo hi mx
    | _ => none
def oFieldAddr (t : TypeId) (x : Operand) (f : Nat) : Option (IV × IH) := (evalO T x).bind fun x => pureV H (ifieldAddr ty t x f)
def oField (t : TypeId) (x : Operand) (f : Nat) : Option (IV × IH) := (evalO T x).bind fun x => pureV H (ifield ty t x f)
def oIndexAddr (t : TypeId) (x i : Operand) : Option (IV × IH) := (evalO T x).bind fun x => (evalO T i).bind fun i => pureV H (iindexAddr ty t x i)
def oIndex (t : TypeId) (x i : Operand) : Option (IV × IH) := (evalO T x).bind fun x => (evalO T i).bind fun i => pureV H (iindex ty t x i)
def oLookup (t : TypeId) (x i : Operand) (ok : Bool) : Option (IV × IH) := (evalO T x).bind fun x => (evalO T i).bind fun i => pureV H (ilookup ty t H x i ok)
def oMapUpdate (t : TypeId) (m k x : Operand) : Option (IV × IH) := (evalO T m).bind fun m => (evalO T k).bind fun k => (evalO T x).bind fun x => unitV (imapUpdate ty t H m k x)
def oExtract (x : Operand) (i : Nat) : Option (IV × IH) := (evalO T x).bind fun | .tup l => pureV H l[i]? | _ => none
def appendAs : Ty → Option Bool
  | .slice _ => some false
  | .int _ => some true
  | _ => none
def oBuiltin (b : Builtin) (args : List Operand) (argTypes : List TypeId) : Option (IV × IH) := (evals T args).bind fun args =>
    match b, args, argTypes with
    | .len, [x], [t] => pureV H (ilen ty t H x)
    | .cap, [x], [t] => pureV H (icap ty t x)
    | .max, x :: l, _ => pureV H (imax (fun a b => bif ltI a b then b else a) x l)
    | .min, x :: l, _ => pureV H (imax (fun a b => bif ltI b a then b else a) x l)
    | .append, [s, x], [t, u] => (ty u).bind fun ui => (appendAs ui.ty).bind fun z => iappend ty t z H s x
    | .clear, [x], [t] => unitV (iclear ty t H x)
    | _, _, _ => none
end ops

inductive IExit where
  | normal | exit (id : Nat) | ret

structure IFn where
  ntmps : Nat
  results : List ResultVar
  body : Code

variable (fns : FuncId → Option IFn)

def results1 (T : TM) (H : IH) : List ResultVar → Option (List IV)
  | [] => some []
  | .tmp t :: l => (results1 T H l).map (T.at t :: ·)
  | .cell a t :: l => (ty t).bind fun ti => (iload ti H (T.at a)).bind fun v => (results1 T H l).map (v :: ·)

def enterT (i : Nat) (l : List IV) (T : TM) : TM :=
  List.rec (motive := fun _ => Nat → TM → TM) (fun _ T => T) (fun v _ ih i T => ih (i + 1) (Tr.set v (bits i) T)) l i T

def putT (n : Nat) (dst : Option Tmp) (v : IV) (T : TM) : Option TM :=
  match dst with
  | none => some T
  | some d => bif Nat.blt d n then some (Tr.set v (bits d) T) else none

def isWanted (T : TM) (ops : List Oper) (o : Oper) : Bool :=
  match o.guard with
  | none => true
  | some (j, want) => match (ops[j]?).bind (·.dst) with
    | some d => match T.at d with | .b b => b == want | _ => false
    | none => false


structure Fns where
  call : FuncId → List IV → IH → Option (IV × IH)
  exec : Nat → Code → TM → IH → Option (IExit × TM × IH)

/-- The jump that a round leaves behind. -/
def jumpOf : IExit → Option Code
  | .normal => none
  | .exit id => some (.exit id)
  | .ret => some .ret

def setParams (ps : List Tmp) (args : List IV) (n : Nat) (T : TM) : Option TM :=
  List.rec (motive := fun _ => List IV → TM → Option TM) (fun l T => match l with | [] => some T | _ => none)
    (fun p _ ih l T => match l with | v :: l => bif Nat.blt p n then ih l (Tr.set v (bits p) T) else none | [] => none) ps args T

/-- No range over a function in it. -/
def noRange : Code → Bool
  | .seq a b => noRange a && noRange b
  | .cond _ a b => noRange a && noRange b
  | .block _ a => noRange a
  | .loop a => noRange a
  | .scope a => noRange a
  | .rangeFunc .. => false
  | _ => true

def endRoundI (k : Nat) (x : IExit × TM × IH) : Option (IV × IH) :=
  (x.2.2.get k).bind fun
    | .loop L => some (.b (jumpOf x.1).isNone, x.2.2.put k (.loop { L with state := if (jumpOf x.1).isNone then .ready else .done, pending := jumpOf x.1 }))
    | _ => none

def beginRoundI (r : Fns) (k : Nat) (body : Code) (n : Nat) (x : IExit × TM × IH) : Option (IV × IH) :=
  match x.1 with
  | .normal => (x.2.2.get k).bind fun
    | .loop L => bif L.state == .ready then (r.exec n body x.2.1 (x.2.2.put k (.loop { L with state := .busy }))).bind (endRoundI k) else none
    | _ => none
  | _ => none

/-- A call of yield: a round. -/
def iround (r : Fns) (k : Nat) (args : List IV) (H : IH) : Option (IV × IH) :=
  (H.get k).bind fun
    | .loop L => bif noRange L.assign && noRange L.body then (setParams L.params args L.n L.T).bind fun T => (r.exec L.n L.assign T H).bind (beginRoundI r k L.body L.n) else none
    | _ => none

def oCallVal (r : Fns) (T : TM) (H : IH) (f : Operand) (args : List Operand) : Option (IV × IH) :=
  (evalO T f).bind fun
    | .fn (.func g) first cap => (evals T args).bind fun args => r.call g (first ++ args ++ cap) H
    | .yl k => (evals T args).bind fun args => iround r k args H
    | _ => none

def oCall (r : Fns) (T : TM) (H : IH) (c : Call) : Option (IV × IH) :=
  match c.callee with
  | .value f => oCallVal r T H f c.args.toList
  | .builtin b => oBuiltin ty T H b c.args.toList c.argTypes.toList
  | .invoke .. => none

def iop (r : Fns) (T : TM) (H : IH) (o : Op) : Option (IV × IH) :=
  match o with
  | .move x => pureV H (evalO T x)
  | .assign x => pureV H (evalO T x)
  | .pick c a b => oPick T H c a b
  | .alloc t => oAlloc ty H t
  | .box _ x => oBox T H x
  | .build t parts => oBuild ty T H t parts.toList
  | .buildSlice t len parts => oBuildSlice ty T H t len parts.toList
  | .load t a => oLoad ty T H t a
  | .store t a x => oStore ty T H t a x
  | .nilCheck x => oNilCheck T H x
  | .binOp op t x y _ => oBin ty T H op t x y
  | .unOp op _ x => oUn T H op x
  | .convert s d x => oConv ty T H s d x
  | .makeFunc fn a c => oMakeFunc T H fn a.toList c.toList
  | .makeMap _ x => oMakeMap H x
  | .makeSlice t l c => oMakeSlice ty T H t l c
  | .slice t x lo hi mx => oSlice ty T H t x lo hi mx
  | .fieldAddr t x f => oFieldAddr ty T H t x f
  | .field t x f => oField ty T H t x f
  | .indexAddr t x i => oIndexAddr ty T H t x i
  | .index t x i => oIndex ty T H t x i
  | .lookup t x i ok => oLookup ty T H t x i ok
  | .mapUpdate t m k x => oMapUpdate ty T H t m k x
  | .insert t m k x => oMapUpdate ty T H t m k x
  | .extract x i => oExtract T H x i
  | .call c => oCall ty r T H c
  | _ => none

/-- One operation of a region, and what follows. -/
def opOne (r : Fns) (n : Nat) (all : List Oper) (o : Oper) (k : TM → IH → Option (TM × IH)) (T : TM) (H : IH) : Option (TM × IH) :=
  bif isWanted T all o then (iop ty r T H o.op).bind fun x => (putT n o.dst x.1 T).bind fun T' => k T' x.2
  else (putT n o.dst (.tup []) T).bind fun T' => k T' H

def iops (r : Fns) (n : Nat) (all : List Oper) (l : List Oper) : TM → IH → Option (TM × IH) :=
  List.rec (motive := fun _ => TM → IH → Option (TM × IH)) (fun T H => some (T, H)) (fun o _ ih => opOne ty r n all o ih) l

/- A region whose order is drawn: it is run in the order of the text, and it is checked that each order gives the same. -/

def opPure : Op → Bool
  | .move _ => true | .assign _ => true | .pick .. => true | .build .. => true | .nilCheck _ => true | .binOp .. => true | .unOp .. => true | .convert .. => true
  | .makeFunc .. => true | .slice .. => true | .fieldAddr .. => true | .field .. => true | .indexAddr .. => true | .index .. => true | .extract .. => true
  | _ => false
def opRead : Op → Bool
  | .load .. => true | .lookup .. => true
  | .call c => match c.callee with | .builtin .len => true | .builtin .cap => true | .builtin .max => true | .builtin .min => true | _ => false
  | _ => false
def opFloat : Op → Bool
  | .alloc _ => true | .buildSlice .. => true
  | _ => false
def heavy (o : Oper) : Bool := !(opPure o.op || opRead o.op)

/-- One operation of the run: what stood before it, what it gave, which operations must come before it (a mask), which temporaries those write (a mask). -/
structure Ent where
  o : Oper
  T : TM
  H : IH
  w : Bool
  v : IV
  tc : Nat
  dm : Nat

def nth {α : Type} (l : List α) : Nat → Option α :=
  List.rec (motive := fun _ => Nat → Option α) (fun _ => none) (fun x _ ih n => Nat.rec (motive := fun _ => Option α) (some x) (fun m _ => ih m) n) l

def bindsI (e : Edge) : Bool := match e.ground with | .textOnly _ => false | .gcOnly _ => false | _ => true

def dbit : Option Tmp → Nat
  | none => 0
  | some d => Nat.shiftLeft 1 d

/-- Bit j of a mask. -/
def bitAt (m j : Nat) : Bool := Nat.beq (Nat.land (Nat.shiftRight m j) 1) 1

def belowOne (es : List Ent) (e : Edge) (a : Nat × Nat) : Option (Nat × Nat) :=
  (nth es e.on).bind fun x => some (Nat.lor a.1 (Nat.lor x.tc (Nat.shiftLeft 1 e.on)), Nat.lor a.2 (Nat.lor x.dm (dbit x.o.dst)))

def below (es : List Ent) (after : List Edge) : Option (Nat × Nat) :=
  List.rec (motive := fun _ => Option (Nat × Nat)) (some (0, 0)) (fun e _ ih => bif bindsI e then ih.bind (belowOne es e) else ih) after

def trOne (r : Fns) (n : Nat) (all : List Oper) (o : Oper) (k : List Ent → TM → IH → Option (List Ent × TM × IH)) (es : List Ent) (T : TM) (H : IH) : Option (List Ent × TM × IH) :=
  (below es o.after.toList).bind fun b =>
    bif isWanted T all o then (iop ty r T H o.op).bind fun x => (putT n o.dst x.1 T).bind fun T' => k (es ++ [Ent.mk o T H true x.1 b.1 b.2]) T' x.2
    else (putT n o.dst (.tup []) T).bind fun T' => k (es ++ [Ent.mk o T H false (.tup []) b.1 b.2]) T' H

def trRun (r : Fns) (n : Nat) (all : List Oper) (l : List Oper) : List Ent → TM → IH → Option (List Ent × TM × IH) :=
  List.rec (motive := fun _ => List Ent → TM → IH → Option (List Ent × TM × IH)) (fun es T H => some (es, T, H)) (fun o _ ih => trOne ty r n all o ih) l

/-- All of a mask lies in another one. -/
def within (a b : Nat) : Bool := Nat.beq (Nat.land a b) a

/-- An allocation that may come at any time. -/
def isFlt (e : Ent) : Bool := opFloat e.o.op && (e.w && e.o.guard.isNone)
def chainE (e : Ent) : Bool := heavy e.o && !isFlt e

/-- The heavy ones lie in a chain, but for allocations. What needs an allocation needs all of the chain before it (in the text). -/
structure HSt where
  i : Nat
  cm : Nat
  fs : List (Nat × Nat)

def floatOk (tc : Nat) (fs : List (Nat × Nat)) : Bool := fs.all fun f => bif bitAt tc f.1 then within f.2 tc else true

def hvNext (s : HSt) (e : Ent) : Option HSt :=
  bif isFlt e then some ⟨s.i + 1, s.cm, (s.i, s.cm) :: s.fs⟩
  else bif heavy e.o then
    bif within s.cm e.tc then some ⟨s.i + 1, Nat.lor s.cm (Nat.shiftLeft 1 s.i), s.fs⟩ else none
  else some ⟨s.i + 1, s.cm, s.fs⟩

def hvRun (l : List Ent) : HSt → Option HSt :=
  List.rec (motive := fun _ => HSt → Option HSt) (fun s => some s) (fun e _ ih s => bif floatOk e.tc s.fs then (hvNext s e).bind ih else none) l

/-- Each temporary is written once: what is written. -/
def dsOne (seen : Nat) : Option Tmp → Option Nat
  | none => some seen
  | some d => bif bitAt seen d then none else some (Nat.lor seen (Nat.shiftLeft 1 d))

def dsRun (l : List Ent) : Nat → Option Nat :=
  List.rec (motive := fun _ => Nat → Option Nat) (fun s => some s) (fun e _ ih s => (dsOne s e.o.dst).bind ih) l

/-- The temporary is written by this one, or by one that must come later. -/
def laterOf (i t : Nat) (l : List Ent) : Nat → Bool :=
  List.rec (motive := fun _ => Nat → Bool) (fun _ => false)
    (fun e _ ih j => match e.o.dst with
      | some d => bif Nat.beq d t then (Nat.beq j i || bitAt e.tc i) else ih (j + 1)
      | none => ih (j + 1)) l

def lookOk (es : List Ent) (A i : Nat) (e : Ent) (t : Nat) : Bool :=
  bitAt e.dm t || !bitAt A t || laterOf i t es 0

def looks (ops : List Oper) (o : Oper) : List Nat :=
  (match o.guard with
   | some (g, _) => match (ops[g]?).bind (·.dst) with | some d => [d] | none => []
   | none => []) ++ o.op.operands.toList.filterMap fun | .tmp t => some t | _ => none

def lkRun (ops : List Oper) (es : List Ent) (A : Nat) (l : List Ent) : Nat → Bool :=
  List.rec (motive := fun _ => Nat → Bool) (fun _ => true) (fun e _ ih i => (looks ops e.o).all (lookOk es A i e) && ih (i + 1)) l

/-- The same value. -/
def eqvF : Fn → Fn → Bool
  | .func a, .func b => Nat.beq a b
  | _, _ => false

def eqvs (f : IV → IV → Bool) : List IV → List IV → Bool
  | [], [] => true
  | x :: l, y :: l' => f x y && eqvs f l l'
  | _, _ => false

def eqv : Nat → IV → IV → Bool
  | 0, _, _ => false
  | d + 1, x, y => match x, y with
    | .b a, .b b => a == b
    | .i k a, .i k' b => k == k' && eqI a b
    | .s a, .s b => a.data.toList == b.data.toList
    | .p0, .p0 => true
    | .p k o, .p k' o' => Nat.beq k k' && Nat.beq o o'
    | .g k o, .g k' o' => Nat.beq k k' && Nat.beq o o'
    | .s0, .s0 => true
    | .sl k o l c e s, .sl k' o' l' c' e' s' => Nat.beq k k' && (Nat.beq o o' && (Nat.beq l l' && (Nat.beq c c' && (e == e' && Nat.beq s s'))))
    | .m0, .m0 => true
    | .m k, .m k' => Nat.beq k k'
    | .f0, .f0 => true
    | .fn f a c, .fn f' a' c' => eqvF f f' && (eqvs (eqv d) a a' && eqvs (eqv d) c c')
    | .i0, .i0 => true
    | .agg l, .agg l' => eqvs (eqv d) l l'
    | .tup l, .tup l' => eqvs (eqv d) l l'
    | _, _ => false

def readAt (r : Fns) (e : Ent) (H : IH) : Bool :=
  match iop ty r e.T H e.o.op with
  | some (v, _) => eqv 20 v e.v
  | none => false

/-- A reading one gives the same before each heavy one that may be next. -/
def rdRun (r : Fns) (hm : Nat) (Hn : IH) (i : Nat) (e : Ent) (l : List Ent) : Nat → Bool :=
  List.rec (motive := fun _ => Nat → Bool) (fun _ => readAt ty r e Hn)
    (fun x _ ih p => bif chainE x then
        (bif Nat.beq (Nat.shiftRight (Nat.land hm e.tc) p) 0 then readAt ty r e x.H else true) && (bif bitAt x.tc i then true else ih (p + 1))
      else ih (p + 1)) l

def rdAll (r : Fns) (hm : Nat) (Hn : IH) (es : List Ent) (l : List Ent) : Nat → Bool :=
  List.rec (motive := fun _ => Nat → Bool) (fun _ => true)
    (fun e _ ih i => (bif opRead e.o.op && e.w then rdRun ty r hm Hn i e es 0 else true) && ih (i + 1)) l

/-- The numbers grow. -/
def nxRun (l : List Ent) : Nat → Bool :=
  List.rec (motive := fun _ => Nat → Bool) (fun _ => true) (fun e _ ih m => Nat.ble m e.H.nx && ih e.H.nx) l

def rowAt (H : IH) (k : Nat) : Option (List IV) :=
  match H.get k with
  | some (.cells none c) => some c
  | _ => none

def sameRow (o : Option IObj) (c : List IV) : Bool :=
  match o with
  | some (.cells none c') => eqvs (eqv 20) c' c
  | _ => false

/-- What was allocated stays as it is until somebody needs it. -/
def ltRun (Hn : IH) (fi k : Nat) (c : List IV) (l : List Ent) : Bool :=
  List.rec (motive := fun _ => Bool) (sameRow (Hn.get k) c) (fun x _ ih => bif chainE x then sameRow (x.H.get k) c && (bif bitAt x.tc fi then true else ih) else ih) l

def headH (Hn : IH) (l : List Ent) : IH := List.rec (motive := fun _ => IH) Hn (fun x _ _ => x.H) l

def ltAll (Hn : IH) (l : List Ent) : Nat → Bool :=
  List.rec (motive := fun _ => Nat → Bool) (fun _ => true)
    (fun e l ih i => (bif isFlt e then (match rowAt (headH Hn l) e.H.nx with | some c => ltRun Hn i e.H.nx c l | none => false) else true) && ih (i + 1)) l

def drawnOk (r : Fns) (ops : List Oper) (es : List Ent) (Hn : IH) : Bool :=
  match hvRun es ⟨0, 0, []⟩ with
  | none => false
  | some s => match dsRun es 0 with
    | none => false
    | some A => lkRun ops es A es 0 && (rdAll ty r s.cm Hn es es 0 && (nxRun es 0 && ltAll Hn es 0))

/-- A region whose order is drawn. -/
def idrawn (r : Fns) (n : Nat) (ops : List Oper) (T : TM) (H : IH) : Option (TM × IH) :=
  (trRun ty r n ops ops [] T H).bind fun x => bif drawnOk ty r ops x.1 x.2.2 then some x.2 else none

def condK (r : Fns) (n : Nat) (a b : Code) (T : TM) (H : IH) : IV → Option (IExit × TM × IH)
  | .b x => bif x then r.exec n a T H else r.exec n b T H
  | _ => none

def seqK (r : Fns) (n : Nat) (b : Code) (x : IExit × TM × IH) : Option (IExit × TM × IH) :=
  match x.1 with
  | .normal => r.exec n b x.2.1 x.2.2
  | _ => some x

def blockK (id : Nat) (x : IExit × TM × IH) : Option (IExit × TM × IH) :=
  match x.1 with
  | .exit id' => bif Nat.beq id' id then some (.normal, x.2.1, x.2.2) else some x
  | _ => some x

/-- The jump that a round has left. -/
def pendI : Option Code → Option IExit
  | none => some .normal
  | some (.exit id) => some (.exit id)
  | some .ret => some .ret
  | _ => none

/-- The function that is ranged over has ended. -/
def endLoopI (k : Nat) (T : TM) (x : IV × IH) : Option (IExit × TM × IH) :=
  (x.2.get k).bind fun
    | .loop L => match L.state with
      | .busy => none
      | _ => (pendI L.pending).map fun e => (e, T, x.2.put k (.loop { L with state := .exhausted }))
    | _ => none

/-- A range over a function. -/
def irange (r : Fns) (n : Nat) (T : TM) (H : IH) (ps : List Tmp) (assign body : Code) : IV → Option (IExit × TM × IH)
  | .fn (.func f) first cap => (r.call f (first ++ [.yl H.nx] ++ cap) (H.new (.loop ⟨n, T, ps, assign, body, .ready, none⟩))).bind (endLoopI H.nx T)
  | _ => none

def iexec (r : Fns) (n : Nat) (c : Code) (T : TM) (H : IH) : Option (IExit × TM × IH) :=
  match c with
  | .skip => some (.normal, T, H)
  | .label _ => some (.normal, T, H)
  | .region _ ops true => (idrawn ty r n ops.toList T H).map fun x => (.normal, x.1, x.2)
  | .region _ ops false => (iops ty r n ops.toList ops.toList T H).map fun x => (.normal, x.1, x.2)
  | .seq a b => (r.exec n a T H).bind (seqK r n b)
  | .cond c a b => (evalO T c).bind (condK r n a b T H)
  | .block id a => (r.exec n a T H).bind (blockK id)
  | .loop a => (r.exec n a T H).bind (seqK r n (.loop a))
  | .exit id => some (.exit id, T, H)
  | .ret => some (.ret, T, H)
  | .scope a => r.exec n a T H
  | .rangeFunc g ps assign body => (evalO T g).bind (irange r n T H ps.toList assign body)
  | _ => none

def tupled : List IV → IV
  | [v] => v
  | l => .tup l

def callK (fn : IFn) (x : IExit × TM × IH) : Option (IV × IH) :=
  match x.1 with
  | .exit _ => none
  | _ => (results1 ty x.2.1 x.2.2 fn.results).map fun l => (tupled l, x.2.2)

def icallIn (r : Fns) (args : List IV) (H : IH) (fn : IFn) : Option (IV × IH) :=
  bif Nat.ble args.length fn.ntmps then (r.exec fn.ntmps fn.body (enterT 0 args .e) H).bind (callK ty fn) else none

def Fns.none : Fns := ⟨fun _ _ _ => .none, fun _ _ _ _ => .none⟩
/-- A call whose answer is known, else the function's own code. -/
def orCall (r : Fns) (orc : FuncId → List IV → IH → Option (IV × IH)) (f : FuncId) (args : List IV) (H : IH) : Option (IV × IH) :=
  match orc f args H with
  | some x => some x
  | .none => (fns f).bind (icallIn ty r args H)
def Fns.next (orc : FuncId → List IV → IH → Option (IV × IH)) (r : Fns) : Fns := ⟨orCall ty fns r orc, iexec ty r⟩

/-- The machine with so much fuel. -/
def run (orc : FuncId → List IV → IH → Option (IV × IH)) (fuel : Nat) : Fns := Nat.rec Fns.none (fun _ r => Fns.next ty fns orc r) fuel

def build {α : Type} : List (Nat × α) → Tr α
  | [] => .e
  | (k, x) :: l => Tr.set x (bits k) (build l)

def descTy : TypeDesc → Ty
  | .int k => .int k | .bool => .bool | .string => .str | .slice e => .slice e | .array n e => .arr n e
  | .struct fs => .struct (fs.toList.map fun f => (f.type, f.offset)) | .map k e => .map k e | .pointer e => .ptr e | _ => .other

def mayEq (P : Program) (t : TypeId) : TypeDesc → Bool
  | .struct fs => fs.toList.all (fun f => f.name != "_") && !P.stoodInHeld t && !P.eqGuardType P.depth t
  | _ => false

/-- The table of types, out of a program. -/
def tyOf (P : Program) (t : TypeId) : Option TI :=
  (P.info? t).bind fun i => (P.underlying t).bind fun d =>
    some { ty := descTy d, size := i.size, bytes := i.bytes, zero := i.zero.bind ofVal, eq := mayEq P t d }

def fnOf (P : Program) (f : FuncId) : Option IFn :=
  (P.funcs[f]?).bind fun fn => fn.body.map fun b => { ntmps := fn.ntmps, results := fn.results.toList, body := b }

end
end Go.Proofs.YtpppmgfiidlfjaaGreatDoor.Sim
