import GoSem.Core.View
import Derived.Test.YtgpdolhclinjdaaGreatDoorM0
set_option linter.unusedVariables false
set_option linter.unusedSimpArgs false
set_option linter.unusedSectionVars false
section
/- THE ABSTRACT MACHINE D: definitions. Values, an abstract heap, code, small steps. It draws nothing: what the model's tape draws is met by the simulation (MdSim). No condition. -/
namespace Go.Md

inductive AV where
  | undef | bool (x : Bool) | int (k : IntKind) (n : Int) | str (bits len : Nat)
  | pnil | ptr (id off : Nat) | snil | sle | sl (id off len : Nat) (cap : Option Nat)
  | mnil | mp (id : Nat) | fv (fn : Nat) (first cap : List AV) | fy (id : Nat) | fnil | inil | ifc (t : Nat) (v : AV)
  | agg (l : List AV) | tup (l : List AV)

/-- equality of values, by the structure -/
noncomputable def kEq (a b : IntKind) : Bool := IntKind.rec (IntKind.rec true false false false false false false false b) (IntKind.rec false true false false false false false false b)
  (IntKind.rec false false true false false false false false b) (IntKind.rec false false false true false false false false b) (IntKind.rec false false false false true false false false b)
  (IntKind.rec false false false false false true false false b) (IntKind.rec false false false false false false true false b) (IntKind.rec false false false false false false false true b) a

def iLt : Int → Int → Bool
  | .ofNat a, .ofNat b => Nat.blt a b
  | .negSucc a, .negSucc b => Nat.blt b a
  | .negSucc _, .ofNat _ => true
  | .ofNat _, .negSucc _ => false
def iEq : Int → Int → Bool
  | .ofNat a, .ofNat b => Nat.beq a b
  | .negSucc a, .negSucc b => Nat.beq a b
  | _, _ => false
def oEq : Option Nat → Option Nat → Bool
  | none, none => true
  | some a, some b => Nat.beq a b
  | _, _ => false

mutual
noncomputable def AV.beq : AV → AV → Bool
  | .undef, .undef => true
  | .bool x, .bool y => Bool.rec (Bool.rec true false y) y x
  | .int k n, .int l m => Bool.rec false (iEq n m) (kEq k l)
  | .str a n, .str b m => Bool.rec false (Nat.beq n m) (Nat.beq a b)
  | .pnil, .pnil => true
  | .ptr a o, .ptr b q => Bool.rec false (Nat.beq o q) (Nat.beq a b)
  | .snil, .snil => true
  | .sle, .sle => true
  | .sl a o l c, .sl a' o' l' c' => Bool.rec false (Bool.rec false (Bool.rec false (oEq c c') (Nat.beq l l')) (Nat.beq o o')) (Nat.beq a a')
  | .mnil, .mnil => true
  | .mp a, .mp b => Nat.beq a b
  | .fv a x y, .fv b x' y' => Bool.rec false (Bool.rec false (AV.beqL y y') (AV.beqL x x')) (Nat.beq a b)
  | .fy a, .fy b => Nat.beq a b
  | .fnil, .fnil => true
  | .inil, .inil => true
  | .ifc t x, .ifc u y => Bool.rec false (AV.beq x y) (Nat.beq t u)
  | .agg x, .agg y => AV.beqL x y
  | .tup x, .tup y => AV.beqL x y
  | _, _ => false
noncomputable def AV.beqL : List AV → List AV → Bool
  | [], [] => true
  | x :: l, y :: m => Bool.rec false (AV.beqL l m) (AV.beq x y)
  | _, _ => false
end


/-! bytes in one number: the first is the lowest -/
def byt (bits i : Nat) : Nat := Nat.mod (Nat.div bits (Nat.pow 256 i)) 256
def subB (bits lo n : Nat) : Nat := Nat.mod (Nat.div bits (Nat.pow 256 lo)) (Nat.pow 256 n)
def catB (a n b : Nat) : Nat := Nat.add a (Nat.mul b (Nat.pow 256 n))
def putB (bits off n x : Nat) : Nat := Nat.add (Nat.mod bits (Nat.pow 256 off)) (Nat.mul (Nat.add x (Nat.mul (Nat.div bits (Nat.pow 256 (Nat.add off n))) (Nat.pow 256 n))) (Nat.pow 256 off))

/-- operands: a value of this segment, a temporary, a constant, a variable's address, a function -/
inductive DX where
  | e (j : Nat) | t (n : Nat) | c (v : AV) | g (n : Nat) | fn (f : Nat)

/-- the shape of a cell of a key, of a key -/
inductive KS where
  | int (k : IntKind) | str | bool
inductive KSh where
  | one (k : KS) | agg (l : List KS)
noncomputable def ksOk (k : KS) (v : AV) : Bool := match k, v with
  | .int k, .int k' _ => kEq k k'
  | .str, .str _ _ => true
  | .bool, .bool _ => true
  | _, _ => false
noncomputable def ksOkL : List KS → List AV → Bool
  | [], [] => true
  | k :: l, v :: m => match ksOk k v with
    | true => ksOkL l m
    | false => false
  | _, _ => false
noncomputable def shOk (s : KSh) (v : AV) : Bool := match s with
  | .one k => ksOk k v
  | .agg l => (match v with
    | .agg m => ksOkL l m
    | _ => false)
noncomputable def ksEq (a b : KS) : Bool := match a, b with
  | .int k, .int k' => kEq k k'
  | .str, .str => true
  | .bool, .bool => true
  | _, _ => false
noncomputable def ksEqL : List KS → List KS → Bool
  | [], [] => true
  | a :: l, b :: m => match ksEq a b with
    | true => ksEqL l m
    | false => false
  | _, _ => false
noncomputable def shEq (a b : KSh) : Bool := match a, b with
  | .one k, .one k' => ksEq k k'
  | .agg l, .agg m => ksEqL l m
  | _, _ => false

/-- what is compared: bools, pointers, slices against nil, maps, functions, interfaces, structs of numbers and texts -/
inductive EK where
  | bool | ptr | slice | map | func | iface | ifaceC | struct (l : List KS)

/-- operations that neither write nor make -/
inductive QK where
  | mov | pick | bin (op : BinOp) | eqv (neg : Bool) (k : EK) | un (op : UnOp) | conv (k : IntKind) | b2s
  | mkif (t : Nat) | mkf (fn nfirst : Nat) | build (zero : List AV) (parts : List (Nat × Nat))
  | ld1 | ldn (n : Nat) | nilc | fa (off : Nat) | fld (off : Nat) (n : Option Nat) | ia (esz : Nat) | iap (len esz : Nat) | ixs
  | slc (esz : Nat) (lo hi mx : Bool) | sls (lo hi : Bool) | sla (len esz : Nat) (lo hi : Bool)
  | lk (sh : KSh) (zero : AV) (ok : Bool) | lens | lenl | lenm | mn | mx | ext (i : Nat) | add64 | entm

/-- operations that write or make -/
inductive SK where
  | s2b | mstr | alloc (zero : List AV) | box | bsl (by_ : Bool) (n esz : Nat) (zero : List AV) (at_ : List Nat)
  | st (n : Nat) | mu (sh : KSh) | del (sh : KSh) | mkm (sh : KSh) | mks (by_ : Bool) (esz : Nat) (zero : List AV)
  | app (by_ : Bool) (esz : Nat) | appz (by_ : Bool) (esz : Nat) (zero : List AV) | cpy (esz : Nat) | rngm

structure DQ where
  g : Option (DX × Bool)
  k : QK
  xs : List DX

/-- the last operation of a segment -/
inductive Fin where
  | nop
  | s (d : Option Nat) (g : Option (DX × Bool)) (k : SK) (xs : List DX)
  | call (d : Option Nat) (g : Option (DX × Bool)) (f : Nat) (xs : List DX)
  | callv (d : Option Nat) (g : Option (DX × Bool)) (x : DX) (xs : List DX)
  | nx (d : Option Nat) (x : DX)
  | qs (d : Option Nat) (q : DQ)

structure Seg where
  qs : List DQ
  outs : List (Nat × Nat)
  fin : Fin

/-- the operations of a region that draws its order, in an order of our own; behind each that writes, what is asked again -/
inductive DI where
  | q (i : Nat) (d : Nat) (q : DQ)
  | s (i : Nat) (f : Fin) (re : List (Nat × DQ))
/-- orders of a region, by which of two operations comes first in the drawn order -/
inductive DT where
  | leaf (l : List DI) | split (a b : Nat) (x y : DT)
noncomputable def leaves : DT → List (List DI)
  | .leaf l => [l]
  | .split _ _ x y => leaves x ++ leaves y

inductive DC where
  | skip | seq (a b : DC) | cond (c : DX) (a b : DC) | block (id : Nat) (a : DC) | loop (a : DC) | scope (a : DC) | label (l : Nat) | goto (l : Nat)
  | exit (id : Nat) | ret | ops (l : List Seg) | dr (l : List DI) | drt (t : DT) | rf (f : DX) (params : List Nat) (asg body : DC) | bad

inductive DR where
  | t (n : Nat) | c1 (a : Nat) | cn (n a : Nat)

structure DF where
  n : Nat
  trk : Nat
  body : DC
  res : List DR

inductive AO where
  | cells (l : T AV) (n : Nat) (ro opn : Bool) (e : Nat)
  | bytes (bits n : Nat) (opn : Bool)
  | map (es : List (AV × AV × Nat)) (clock : Nat) (sh : KSh)
  | loop (fn : Nat) (tm : T AV) (params : List Nat) (asg body : DC) (st : Nat) (pend : Option DC) (dfr : Nat)
  | dfr
  | miter (m : Option Nat) (since : Nat) (seen : List Nat) (stepped : Nat)

inductive AI where
  | c (c : DC) | blk (id : Nat) | lp (body : DC) | scp (body : DC)
  | ops (l : List Seg) | opsw (d : Option Nat) (l : List Seg)
  | dr (l : List DI) | drw (d : Option Nat) (re : List (Nat × DQ)) (l : List DI) | drr (re : List (Nat × DQ)) (l : List DI)
  | rf (l : Nat) | endrf (l : Nat) | br

structure AF where
  fn : Nat
  tm : T AV
  todo : List AI
  rnd : Option Nat
  dfs : List Nat
  ret : Bool

structure St where
  fr : AF
  cs : List AF
  h : T AO
  nx : Nat

inductive Res where
  | go (s : St)
  | fork (l : List St)
  | done (v : AV) (h : T AO) (nx : Nat)
  | bad

/-! numbers of a kind -/
def kTop : IntKind → Nat
  | .i8 => 128 | .i16 => 32768 | .i32 => 2147483648 | .i64 => 9223372036854775808
  | .u8 => 256 | .u16 => 65536 | .u32 => 4294967296 | .u64 => 18446744073709551616
def kBits : IntKind → Nat
  | .i8 => 8 | .i16 => 16 | .i32 => 32 | .i64 => 64 | .u8 => 8 | .u16 => 16 | .u32 => 32 | .u64 => 64
def fwrap (k : IntKind) (n : Int) : Int :=
  match n with
  | .ofNat a => match Nat.blt a (kTop k) with
    | true => .ofNat a
    | false => k.wrap (.ofNat a)
  | .negSucc a => k.wrap (.negSucc a)

noncomputable def nth (l : List AV) : Nat → AV :=
  List.rec (motive := fun _ => Nat → AV) (fun _ => .undef) (fun x _ ih n => Bool.rec (ih (Nat.sub n 1)) x (Nat.beq n 0)) l

noncomputable def evalX (tm : T AV) (env : List AV) : DX → Option AV
  | .e j => some (nth env j)
  | .t n => tm.get n
  | .c v => some v
  | .g n => some (.ptr n 0)
  | .fn f => some (.fv f [] [])
noncomputable def evalXs (tm : T AV) (env : List AV) : List DX → Option (List AV)
  | [] => some []
  | x :: r => match evalX tm env x with
    | some v => match evalXs tm env r with
      | some l => some (v :: l)
      | none => none
    | none => none

def nat? : AV → Option Nat
  | .int _ (.ofNat n) => some n
  | _ => none

def strLt : Nat → Nat → Nat → Nat → Nat → Bool
  | 0, _, _, _, _ => false
  | f+1, a, na, b, nb =>
    match Nat.beq nb 0 with
    | true => false
    | false => match Nat.beq na 0 with
      | true => true
      | false => match Nat.blt (Nat.mod a 256) (Nat.mod b 256) with
        | true => true
        | false => match Nat.blt (Nat.mod b 256) (Nat.mod a 256) with
          | true => false
          | false => strLt f (Nat.div a 256) (Nat.sub na 1) (Nat.div b 256) (Nat.sub nb 1)

def inTop (k : IntKind) (a b : Nat) : Bool := match Nat.blt a (kTop k) with
  | true => Nat.blt b (kTop k)
  | false => false

def intBin (op : BinOp) (k : IntKind) (x y : Int) : Option AV :=
  match op with
  | .add => some (.int k (fwrap k (Int.add x y)))
  | .sub => some (.int k (fwrap k (Int.sub x y)))
  | .mul => some (.int k (fwrap k (Int.mul x y)))
  | .quo => match iEq y 0 with
    | true => none
    | false => some (.int k (fwrap k (Int.tdiv x y)))
  | .rem => match iEq y 0 with
    | true => none
    | false => some (.int k (Int.tmod x y))
  | .and => match x, y with
    | .ofNat a, .ofNat b => (match inTop k a b with | true => some (.int k (.ofNat (Nat.land a b))) | false => none)
    | _, _ => none
  | .or => match x, y with
    | .ofNat a, .ofNat b => (match inTop k a b with | true => some (.int k (.ofNat (Nat.lor a b))) | false => none)
    | _, _ => none
  | .xor => match x, y with
    | .ofNat a, .ofNat b => (match inTop k a b with | true => some (.int k (.ofNat (Nat.xor a b))) | false => none)
    | _, _ => none
  | .eql => some (.bool (iEq x y))
  | .neq => some (.bool (Bool.not (iEq x y)))
  | .lss => some (.bool (iLt x y))
  | .leq => some (.bool (Bool.not (iLt y x)))
  | .gtr => some (.bool (iLt y x))
  | .geq => some (.bool (Bool.not (iLt x y)))
  | _ => none

def shiftBin (op : BinOp) (k : IntKind) (x y : Int) : Option AV :=
  match x, y with
  | .ofNat a, .ofNat n => match op with
    | .shl => some (.int k (fwrap k (.ofNat (Nat.mul a (Nat.pow 2 (Nat.min n (kBits k)))))))
    | .shr => some (.int k (.ofNat (Nat.div a (Nat.pow 2 (Nat.min n (kBits k))))))
    | _ => none
  | _, _ => none

def bEq (x y : Bool) : Bool := match x, y with
  | true, true => true
  | false, false => true
  | _, _ => false
noncomputable def sEq (a n b m : Nat) : Bool := match Nat.beq a b with
  | true => Nat.beq n m
  | false => false
noncomputable def strBin (op : BinOp) (a n b m : Nat) : Option AV :=
  match op with
  | .add => match Nat.blt (Nat.add n m) 1073741824 with
    | true => some (.str (catB a n b) (Nat.add n m))
    | false => none
  | .eql => some (.bool (sEq a n b m))
  | .neq => some (.bool (Bool.not (sEq a n b m)))
  | .lss => some (.bool (strLt (Nat.add n 1) a n b m))
  | .leq => some (.bool (Bool.not (strLt (Nat.add m 1) b m a n)))
  | .gtr => some (.bool (strLt (Nat.add m 1) b m a n))
  | .geq => some (.bool (Bool.not (strLt (Nat.add n 1) a n b m)))
  | _ => none

noncomputable def bin (op : BinOp) : AV → AV → Option AV
  | .int k x, .int k' y =>
    match op with
    | .shl => shiftBin .shl k x y
    | .shr => shiftBin .shr k x y
    | _ => match kEq k k' with
      | true => intBin op k x y
      | false => none
  | .str a n, .str b m => strBin op a n b m
  | _, _ => none

/-- equality of two values of one cell, where it hangs on no address -/
def flatEq : EK → AV → AV → Option Bool
  | .bool, .bool x, .bool y => some (bEq x y)
  | .ptr, .pnil, .pnil => some true
  | .ptr, .pnil, .ptr _ _ => some false
  | .ptr, .ptr _ _, .pnil => some false
  | .iface, .inil, .ifc _ _ => some false
  | .iface, .ifc _ _, .inil => some false
  | .ifaceC, .inil, .inil => some true
  | .ifaceC, .inil, .ifc _ _ => some false
  | .ifaceC, .ifc _ _, .inil => some false
  | .slice, .snil, .snil => some true
  | .slice, .snil, .sl .. => some false
  | .slice, .sl .., .snil => some false
  | .slice, .snil, .sle => some false
  | .slice, .sle, .snil => some false
  | .map, .mnil, .mnil => some true
  | .map, .mnil, .mp _ => some false
  | .map, .mp _, .mnil => some false
  | .func, .fnil, .fnil => some true
  | .func, .fnil, .fv .. => some false
  | .func, .fv .., .fnil => some false
  | _, _, _ => none
/-- of structs: cells of numbers, texts, bools alone -/
noncomputable def flatEqL : List KS → List AV → List AV → Option Bool
  | [], [], [] => some true
  | .bool :: s, .bool x :: l, .bool y :: m => match bEq x y with
    | true => flatEqL s l m
    | false => some false
  | .int k0 :: s, .int k x :: l, .int k' y :: m => match kEq k0 k with
    | true => (match kEq k0 k' with
      | true => (match iEq x y with | true => flatEqL s l m | false => some false)
      | false => none)
    | false => none
  | .str :: s, .str a n :: l, .str b k :: m => match sEq a n b k with
    | true => flatEqL s l m
    | false => some false
  | _, _, _ => none
noncomputable def eqAny (k : EK) (x y : AV) : Option Bool :=
  match k with
  | .struct s => (match x, y with
    | .agg l, .agg m => flatEqL s l m
    | _, _ => none)
  | k => flatEq k x y

def AV.cells : AV → List AV
  | .agg l => l
  | v => [v]
/-- a value of one cell -/
def AV.one : AV → Bool
  | .agg _ => false
  | .tup _ => false
  | .undef => false
  | _ => true

noncomputable def readCells (l : T AV) (off : Nat) : Nat → Option (List AV)
  | 0 => some []
  | n+1 => match l.get off with
    | some v => match readCells l (Nat.add off 1) n with
      | some r => some (v :: r)
      | none => none
    | none => none
noncomputable def writeCells (l : T AV) (off : Nat) : List AV → T AV
  | [] => l
  | v :: r => writeCells (l.set off v) (Nat.add off 1) r
noncomputable def treeOf (vs : List AV) : T AV := writeCells .nil 0 vs

def unpackAV (bits : Nat) : Nat → List AV
  | 0 => []
  | n+1 => .int .u8 (.ofNat (Nat.mod bits 256)) :: unpackAV (Nat.div bits 256) n
noncomputable def packAV : List AV → Option Nat
  | [] => some 0
  | .int k (.ofNat x) :: r => match kEq k .u8 with
    | true => (match Nat.blt x 256 with
      | true => (match packAV r with
        | some n => some (Nat.add x (Nat.mul n 256))
        | none => none)
      | false => none)
    | false => none
  | _ => none

noncomputable def loadCells (h : T AO) (id off n : Nat) : Option (List AV) :=
  match h.get id with
  | some (.cells l m _ _ _) => match Nat.ble (Nat.add off n) m with
    | true => readCells l off n
    | false => none
  | some (.bytes bits m _) => match Nat.ble (Nat.add off n) m with
    | true => some (unpackAV (Nat.div bits (Nat.pow 256 off)) n)
    | false => none
  | _ => none
noncomputable def load1 (h : T AO) (id off : Nat) : Option AV :=
  match h.get id with
  | some (.cells l m _ _ _) => match Nat.blt off m with
    | true => l.get off
    | false => none
  | some (.bytes bits m _) => match Nat.blt off m with
    | true => some (.int .u8 (.ofNat (byt bits off)))
    | false => none
  | _ => none
def allOne : List AV → Bool
  | [] => true
  | v :: r => match v.one with
    | true => allOne r
    | false => false
noncomputable def storeCells (h : T AO) (id off : Nat) (vs : List AV) : Option (T AO) :=
  match allOne vs with
  | false => none
  | true => match h.get id with
    | some (.cells l m ro o e) => match ro with
      | true => none
      | false => match Nat.ble (Nat.add off vs.length) m with
        | true => some (h.set id (.cells (writeCells l off vs) m false o e))
        | false => none
    | some (.bytes bits m o) => match Nat.ble (Nat.add off vs.length) m with
      | true => (match packAV vs with
        | some x => some (h.set id (.bytes (putB bits off vs.length x) m o))
        | none => none)
      | false => none
    | _ => none

def bound? (v : Option AV) (dflt y : Nat) : Option Nat :=
  match v with
  | none => some dflt
  | some v => match nat? v with
    | some n => (match Nat.ble n y with | true => some n | false => none)
    | none => none

noncomputable def mapFind (k : AV) : List (AV × AV × Nat) → Option (AV × Nat)
  | [] => none
  | e :: r => match AV.beq k e.1 with
    | true => some e.2
    | false => mapFind k r
noncomputable def mapDel (k : AV) : List (AV × AV × Nat) → List (AV × AV × Nat)
  | [] => []
  | e :: r => match AV.beq k e.1 with
    | true => r
    | false => e :: mapDel k r
noncomputable def minGo (k : IntKind) (x : Int) : List AV → Option AV
  | [] => some (.int k x)
  | .int k' y :: r => match kEq k k' with
    | true => minGo k (match iLt y x with | true => y | false => x) r
    | false => none
  | _ => none
noncomputable def maxGo (k : IntKind) (x : Int) : List AV → Option AV
  | [] => some (.int k x)
  | .int k' y :: r => match kEq k k' with
    | true => maxGo k (match iLt x y with | true => y | false => x) r
    | false => none
  | _ => none

/-! the quiet operations, one by one: operands, the heap -/
def qMov (vs : List AV) (_ : T AO) : Option AV := match vs with | [x] => some x | _ => none
def qPick (vs : List AV) (_ : T AO) : Option AV := match vs with
  | [.bool c, a, b] => (match c with | true => some a | false => some b)
  | _ => none
noncomputable def qBin (op : BinOp) (vs : List AV) (_ : T AO) : Option AV := match vs with | [x, y] => bin op x y | _ => none
noncomputable def qEqv (neg : Bool) (k : EK) (vs : List AV) (_ : T AO) : Option AV := match vs with
  | [x, y] => (match eqAny k x y with
    | some r => some (.bool (match neg with | true => Bool.not r | false => r))
    | none => none)
  | _ => none
def qUn (op : UnOp) (vs : List AV) (_ : T AO) : Option AV := match vs with
  | [.bool t] => (match op with | .not => some (.bool (Bool.not t)) | _ => none)
  | [.int k x] => (match op with
    | .neg => some (.int k (fwrap k (Int.sub 0 x)))
    | .xor => (match x, k.signed with
      | .ofNat n, false => (match Nat.blt n (kTop k) with
        | true => some (.int k (.ofNat (Nat.xor (Nat.sub (kTop k) 1) n)))
        | false => none)
      | _, _ => none)
    | _ => none)
  | _ => none
def qConv (k : IntKind) (vs : List AV) (_ : T AO) : Option AV := match vs with
  | [.int _ n] => some (.int k (fwrap k n))
  | _ => none
noncomputable def qB2s (vs : List AV) (h : T AO) : Option AV := match vs with
  | [.snil] => some (.str 0 0)
  | [.sle] => some (.str 0 0)
  | [.sl id off len _] => (match h.get id with
    | some (.bytes bits m _) => (match Nat.ble (Nat.add off len) m with
      | true => some (.str (subB bits off len) len)
      | false => none)
    | _ => none)
  | _ => none
def qMkif (t : Nat) (vs : List AV) (_ : T AO) : Option AV := match vs with | [x] => some (.ifc t x) | _ => none
def qMkf (fn nfirst : Nat) (vs : List AV) (_ : T AO) : Option AV := some (.fv fn (vs.take nfirst) (vs.drop nfirst))
def fillParts (z : List AV) : List (Nat × Nat) → List AV → Option (List AV)
  | [], [] => some z
  | (off, n) :: ps, v :: vs => match Nat.beq v.cells.length n with
    | true => (match Nat.ble (Nat.add off n) z.length with
      | true => fillParts (z.take off ++ v.cells ++ z.drop (Nat.add off n)) ps vs
      | false => none)
    | false => none
  | _, _ => none
def qBuild (zero : List AV) (parts : List (Nat × Nat)) (vs : List AV) (_ : T AO) : Option AV :=
  match fillParts zero parts vs with
  | some l => some (.agg l)
  | none => none
noncomputable def qLd1 (vs : List AV) (h : T AO) : Option AV := match vs with | [.ptr id off] => load1 h id off | _ => none
noncomputable def qLdn (n : Nat) (vs : List AV) (h : T AO) : Option AV := match vs with
  | [.ptr id off] => (match loadCells h id off n with
    | some l => some (.agg l)
    | none => none)
  | _ => none
def qNilc (vs : List AV) (_ : T AO) : Option AV := match vs with
  | [.ptr id off] => some (.ptr id off)
  | [.fv a b c] => some (.fv a b c)
  | [.fy a] => some (.fy a)
  | _ => none
def qFa (off : Nat) (vs : List AV) (_ : T AO) : Option AV := match vs with | [.ptr id o] => some (.ptr id (Nat.add o off)) | _ => none
def qFld (off : Nat) (n : Option Nat) (vs : List AV) (_ : T AO) : Option AV := match vs with
  | [.agg l] => (match n with
    | none => l[off]?
    | some n => some (.agg ((l.drop off).take n)))
  | _ => none
def qIa (esz : Nat) (vs : List AV) (_ : T AO) : Option AV := match vs with
  | [.sl id off len _, .int _ (.ofNat n)] => (match Nat.blt n len with
    | true => some (.ptr id (Nat.add off (Nat.mul n esz)))
    | false => none)
  | _ => none
def qIap (len esz : Nat) (vs : List AV) (_ : T AO) : Option AV := match vs with
  | [.ptr id off, .int _ (.ofNat n)] => (match Nat.blt n len with
    | true => some (.ptr id (Nat.add off (Nat.mul n esz)))
    | false => none)
  | _ => none
def qIxs (vs : List AV) (_ : T AO) : Option AV := match vs with
  | [.str bits n, .int _ (.ofNat j)] => (match Nat.blt j n with
    | true => some (.int .u8 (.ofNat (byt bits j)))
    | false => none)
  | _ => none
def optHd (b : Bool) (vs : List AV) : Option AV × List AV := match b, vs with
  | true, v :: r => (some v, r)
  | _, vs => (none, vs)
def cutAt (id off esz l hh cap : Nat) : AV :=
  .sl id (match Nat.beq cap l with | true => off | false => Nat.add off (Nat.mul l esz)) (Nat.sub hh l) (some (Nat.sub cap l))
def slc3 (esz : Nat) (x : AV) (lo hi mx : Option AV) : Option AV :=
  match x with
  | .snil => match bound? mx 0 0 with
    | some _ => (match bound? hi 0 0 with
      | some _ => (match bound? lo 0 0 with
        | some _ => some .snil
        | none => none)
      | none => none)
    | none => none
  | .sl id off len (some c) => match bound? mx c c with
    | some m => (match bound? hi len m with
      | some hh => (match bound? lo 0 hh with
        | some l => some (cutAt id off esz l hh m)
        | none => none)
      | none => none)
    | none => none
  | .sl id off len none => match mx with
    | some _ => (match bound? mx 0 len with
      | some m => (match bound? hi len m with
        | some hh => (match bound? lo 0 hh with
          | some l => some (cutAt id off esz l hh m)
          | none => none)
        | none => none)
      | none => none)
    | none => match bound? hi len len with
      | some hh => (match bound? lo 0 hh with
        | some l => (match Nat.blt l len with
          | true => some (.sl id (Nat.add off (Nat.mul l esz)) (Nat.sub hh l) none)
          | false => (match Nat.beq l 0 with
            | true => some (.sl id off (Nat.sub hh l) none)
            | false => some .sle))
        | none => none)
      | none => none
  | _ => none
/-- of a slice whose room is not known: are its elements as wide as said? -/
noncomputable def eOk (h : T AO) (esz : Nat) (x : AV) : Bool := match x with
  | .sl id _ _ none => (match h.get id with
    | some (.cells _ _ _ _ e) => Nat.beq e esz
    | some (.bytes _ _ _) => Nat.beq 1 esz
    | _ => false)
  | _ => true
noncomputable def qSlc (esz : Nat) (lo hi mx : Bool) (vs : List AV) (h : T AO) : Option AV := match vs with
  | x :: r =>
    let a := optHd lo r
    let b := optHd hi a.2
    let c := optHd mx b.2
    (match c.2 with
    | [] => (match eOk h esz x with
      | true => slc3 esz x a.1 b.1 c.1
      | false => none)
    | _ => none)
  | _ => none
def qSls (lo hi : Bool) (vs : List AV) (_ : T AO) : Option AV := match vs with
  | .str bits n :: r =>
    let a := optHd lo r
    let b := optHd hi a.2
    (match b.2 with
    | [] => (match bound? b.1 n n with
      | some hh => (match bound? a.1 0 hh with
        | some l => some (.str (subB bits l (Nat.sub hh l)) (Nat.sub hh l))
        | none => none)
      | none => none)
    | _ => none)
  | _ => none
def qSla (len esz : Nat) (lo hi : Bool) (vs : List AV) (_ : T AO) : Option AV := match vs with
  | .ptr id off :: r =>
    let a := optHd lo r
    let b := optHd hi a.2
    (match b.2 with
    | [] => (match bound? b.1 len len with
      | some hh => (match bound? a.1 0 hh with
        | some l => some (cutAt id off esz l hh len)
        | none => none)
      | none => none)
    | _ => none)
  | _ => none
def lkRes (ok : Bool) (v : AV) (b : Bool) : AV := match ok with
  | true => .tup [v, .bool b]
  | false => v
noncomputable def qLk (sh : KSh) (zero : AV) (ok : Bool) (vs : List AV) (h : T AO) : Option AV := match vs with
  | [m, k] => (match shOk sh k with
    | true =>
      (match m with
      | .mnil => some (lkRes ok zero false)
      | .mp id => (match h.get id with
        | some (.map es _ sh') => (match shEq sh sh' with
          | true => (match mapFind k es with
            | some (v, _) => some (lkRes ok v true)
            | none => some (lkRes ok zero false))
          | false => none)
        | _ => none)
      | _ => none)
    | false => none)
  | _ => none
def qLens (vs : List AV) (_ : T AO) : Option AV := match vs with
  | [.str _ n] => some (.int .i64 (.ofNat n))
  | _ => none
def qLenl (vs : List AV) (_ : T AO) : Option AV := match vs with
  | [.snil] => some (.int .i64 (.ofNat 0))
  | [.sle] => some (.int .i64 (.ofNat 0))
  | [.sl _ _ n _] => some (.int .i64 (.ofNat n))
  | _ => none
noncomputable def qLenm (vs : List AV) (h : T AO) : Option AV := match vs with
  | [.mnil] => some (.int .i64 (.ofNat 0))
  | [.mp id] => (match h.get id with
    | some (.map es _ _) => some (.int .i64 (.ofNat es.length))
    | _ => none)
  | _ => none
noncomputable def qMn (vs : List AV) (_ : T AO) : Option AV := match vs with | .int k n :: r => minGo k n r | _ => none
noncomputable def qMx (vs : List AV) (_ : T AO) : Option AV := match vs with | .int k n :: r => maxGo k n r | _ => none
def qExt (i : Nat) (vs : List AV) (_ : T AO) : Option AV := match vs with | [.tup l] => l[i]? | _ => none
noncomputable def isU64 (k : IntKind) : Bool := kEq k .u64
noncomputable def qAdd64 (vs : List AV) (_ : T AO) : Option AV := match vs with
  | [.int k (.ofNat a), .int k' (.ofNat b), .int k'' (.ofNat c)] => (match isU64 k, isU64 k', isU64 k'', Nat.ble c 1 with
    | true, true, true, true => some (.tup [.int .u64 (.ofNat (Nat.mod (Nat.add (Nat.add a b) c) 18446744073709551616)), .int .u64 (.ofNat (Nat.div (Nat.add (Nat.add a b) c) 18446744073709551616))])
    | _, _, _, _ => none)
  | _ => none
noncomputable def findStamp (st : Nat) : List (AV × AV × Nat) → Option (AV × AV)
  | [] => none
  | (k, v, n) :: r => match Nat.beq n st with
    | true => some (k, v)
    | false => findStamp st r
noncomputable def qEntm (vs : List AV) (h : T AO) : Option AV := match vs with
  | [.ptr id 0] => (match h.get id with
    | some (.miter (some m) _ (st :: _) stepped) => (match h.get m with
      | some (.map es c _) => (match Nat.beq c stepped with
        | true => (match findStamp st es with
          | some (k, v) => some (.tup [k, v])
          | none => none)
        | false => none)
      | _ => none)
    | _ => none)
  | _ => none

noncomputable def qop (k : QK) : List AV → T AO → Option AV := match k with
  | .mov => qMov | .pick => qPick | .bin op => qBin op | .eqv neg k => qEqv neg k | .un op => qUn op | .conv k => qConv k | .b2s => qB2s
  | .mkif t => qMkif t | .mkf fn n => qMkf fn n | .build z ps => qBuild z ps | .ld1 => qLd1 | .ldn n => qLdn n | .nilc => qNilc
  | .fa off => qFa off | .fld off n => qFld off n | .ia esz => qIa esz | .iap n e => qIap n e | .ixs => qIxs | .slc e a b c => qSlc e a b c | .sls a b => qSls a b
  | .sla n e a b => qSla n e a b | .lk s z ok => qLk s z ok | .lens => qLens | .lenl => qLenl | .lenm => qLenm | .mn => qMn | .mx => qMx | .ext i => qExt i | .add64 => qAdd64 | .entm => qEntm

/-! the operations that write or make -/
abbrev Out := Option (AV × T AO × Nat)
noncomputable def newObj (h : T AO) (nx : Nat) (o : AO) (v : AV) : Out := some (v, h.set nx o, Nat.add nx 1)
def repl (zero : List AV) : Nat → List AV
  | 0 => []
  | n+1 => zero ++ repl zero n

noncomputable def srcBytes (h : T AO) : AV → Option (Nat × Nat)
  | .str bits n => some (bits, n)
  | .snil => some (0, 0)
  | .sle => some (0, 0)
  | .sl id off len _ => match h.get id with
    | some (.bytes bits m _) => (match Nat.ble (Nat.add off len) m with
      | true => some (subB bits off len, len)
      | false => none)
    | _ => none
  | _ => none
noncomputable def srcCells (h : T AO) (esz : Nat) : AV → Option (List AV × Nat)
  | .snil => some ([], 0)
  | .sle => some ([], 0)
  | .sl id off len _ => match h.get id with
    | some (.cells l m _ _ _) => (match Nat.ble (Nat.add off (Nat.mul len esz)) m with
      | true => (match readCells l off (Nat.mul len esz) with
        | some vs => some (vs, len)
        | none => none)
      | false => none)
    | _ => none
  | _ => none
noncomputable def growBytes (h : T AO) (nx : Nat) (old : Option Nat) (bits n : Nat) : Out := match Nat.ble n 67108864 with
  | true => newObj (match old with | some id => h.del id | none => h) nx (.bytes bits n true) (.sl nx 0 n none)
  | false => none
noncomputable def growCells (h : T AO) (nx esz : Nat) (old : Option Nat) (vs : List AV) (len : Nat) : Out := match Nat.ble len 67108864 with
  | true => newObj (match old with | some id => h.del id | none => h) nx (.cells (treeOf vs) vs.length false true esz) (.sl nx 0 len none)
  | false => none

/-- append of n bytes x to s: within the room, into new room, or (the room is not known) whichever: then the old number is forgotten -/
noncomputable def appBytes (h : T AO) (nx : Nat) (s : AV) (x n : Nat) : Out :=
  match s with
  | .snil => match Nat.beq n 0 with
    | true => some (.snil, h, nx)
    | false => growBytes h nx none x n
  | .sl id off len cap => match Nat.beq n 0 with
    | true => some (.sl id off len cap, h, nx)
    | false => match cap with
      | some c => (match Nat.ble (Nat.add len n) c with
        | true => (match h.get id with
          | some (.bytes bits m o) => (match Nat.ble (Nat.add (Nat.add off len) n) m with
            | true => some (.sl id off (Nat.add len n) (some c), h.set id (.bytes (putB bits (Nat.add off len) n x) m o), nx)
            | false => none)
          | _ => none)
        | false => (match srcBytes h (.sl id off len cap) with
          | some (o, _) => growBytes h nx none (catB o len x) (Nat.add len n)
          | none => none))
      | none => (match srcBytes h (.sl id off len cap) with
        | some (o, _) => growBytes h nx (some id) (catB o len x) (Nat.add len n)
        | none => none)
  | _ => none
noncomputable def appCells (h : T AO) (nx esz : Nat) (s : AV) (vs : List AV) (n : Nat) : Out :=
  match s with
  | .snil => match Nat.beq n 0 with
    | true => some (.snil, h, nx)
    | false => match allOne vs with
      | true => growCells h nx esz none vs n
      | false => none
  | .sl id off len cap => match Nat.beq n 0 with
    | true => some (.sl id off len cap, h, nx)
    | false => match allOne vs with
      | false => none
      | true => match cap with
        | some c => (match Nat.ble (Nat.add len n) c with
          | true => (match storeCells h id (Nat.add off (Nat.mul len esz)) vs with
            | some h => some (.sl id off (Nat.add len n) (some c), h, nx)
            | none => none)
          | false => (match srcCells h esz (.sl id off len cap) with
            | some (o, _) => growCells h nx esz none (o ++ vs) (Nat.add len n)
            | none => none))
        | none => (match h.get id with
          | some (.cells _ _ ro _ e) => (match ro with
            | true => none
            | false => match Nat.beq e esz with
              | true => (match srcCells h esz (.sl id off len cap) with
                | some (o, _) => growCells h nx esz (some id) (o ++ vs) (Nat.add len n)
                | none => none)
              | false => none)
          | _ => none)
  | _ => none

noncomputable def sS2b (vs : List AV) (h : T AO) (nx : Nat) : Out := match vs with
  | [.str bits n] => newObj h nx (.bytes bits n true) (.sl nx 0 n none)
  | _ => none
noncomputable def sMstr (vs : List AV) (h : T AO) (nx : Nat) : Out := match vs with
  | [.sl id off len cap] => (match h.get id with
    | some (.bytes ..) => some (.sl id off len cap, h, nx)
    | _ => none)
  | _ => none
noncomputable def sAlloc (zero : List AV) (vs : List AV) (h : T AO) (nx : Nat) : Out := match vs with
  | [] => newObj h nx (.cells (treeOf zero) zero.length false false 1) (.ptr nx 0)
  | _ => none
noncomputable def sBox (vs : List AV) (h : T AO) (nx : Nat) : Out := match vs with
  | [x] => (match allOne x.cells with
    | true => newObj h nx (.cells (treeOf x.cells) x.cells.length false false 1) (.ptr nx 0)
    | false => none)
  | _ => none
noncomputable def sBsl (by_ : Bool) (n esz : Nat) (zero : List AV) (at_ : List Nat) (vs : List AV) (h : T AO) (nx : Nat) : Out :=
  match fillParts (repl zero n) (at_.map fun i => (Nat.mul i esz, esz)) vs with
  | some l => (match by_ with
    | true => (match packAV l with
      | some bits => newObj h nx (.bytes bits n false) (.sl nx 0 n (some n))
      | none => none)
    | false => newObj h nx (.cells (treeOf l) l.length false false esz) (.sl nx 0 n (some n)))
  | none => none
noncomputable def sSt (n : Nat) (vs : List AV) (h : T AO) (nx : Nat) : Out := match vs with
  | [.ptr id off, x] => (match Nat.beq x.cells.length n with
    | true => (match storeCells h id off x.cells with
      | some h => some (.undef, h, nx)
      | none => none)
    | false => none)
  | _ => none
noncomputable def sMu (sh : KSh) (vs : List AV) (h : T AO) (nx : Nat) : Out := match vs with
  | [.mp id, k, v] => (match shOk sh k with
    | true => (match h.get id with
      | some (.map es c sh') => (match shEq sh sh' with
        | true => (match mapFind k es with
          | some (_, n) => some (.undef, h.set id (.map ((k, v, n) :: mapDel k es) c sh'), nx)
          | none => some (.undef, h.set id (.map ((k, v, c) :: es) (Nat.add c 1) sh'), nx))
        | false => none)
      | _ => none)
    | false => none)
  | _ => none
noncomputable def sDel (sh : KSh) (vs : List AV) (h : T AO) (nx : Nat) : Out := match vs with
  | [.mp id, k] => (match shOk sh k with
    | true => (match h.get id with
      | some (.map es c sh') => (match shEq sh sh' with
        | true => some (.undef, h.set id (.map (mapDel k es) c sh'), nx)
        | false => none)
      | _ => none)
    | false => none)
  | _ => none
noncomputable def sMkm (sh : KSh) (vs : List AV) (h : T AO) (nx : Nat) : Out := match vs with
  | [] => newObj h nx (.map [] 0 sh) (.mp nx)
  | [.int _ _] => newObj h nx (.map [] 0 sh) (.mp nx)
  | _ => none
noncomputable def sMks (by_ : Bool) (esz : Nat) (zero : List AV) (vs : List AV) (h : T AO) (nx : Nat) : Out := match vs with
  | [.int _ (.ofNat l), .int _ (.ofNat c)] => (match Nat.ble l c with
    | true => (match Nat.ble c 1048576 with
      | true => (match by_ with
        | true => newObj h nx (.bytes 0 c false) (.sl nx 0 l (some c))
        | false => newObj h nx (.cells (treeOf (repl zero c)) (Nat.mul c esz) false false esz) (.sl nx 0 l (some c)))
      | false => none)
    | false => none)
  | _ => none
noncomputable def sApp (by_ : Bool) (esz : Nat) (vs : List AV) (h : T AO) (nx : Nat) : Out := match vs with
  | [s, x] => (match by_ with
    | true => (match srcBytes h x with
      | some (bits, n) => appBytes h nx s bits n
      | none => none)
    | false => (match srcCells h esz x with
      | some (vs, n) => appCells h nx esz s vs n
      | none => none))
  | _ => none
noncomputable def sAppz (by_ : Bool) (esz : Nat) (zero : List AV) (vs : List AV) (h : T AO) (nx : Nat) : Out := match vs with
  | [s, .int _ (.ofNat n)] => (match Nat.ble n 1048576 with
    | true => (match by_ with
      | true => appBytes h nx s 0 n
      | false => appCells h nx esz s (repl zero n) n)
    | false => none)
  | _ => none
noncomputable def sCpy (esz : Nat) (vs : List AV) (h : T AO) (nx : Nat) : Out := match vs with
  | [.sl id off len _, .sl id' off' len' _] => (match loadCells h id' off' (Nat.mul (Nat.min len' len) esz) with
    | some vs => (match storeCells h id off vs with
      | some h => some (.int .i64 (.ofNat (Nat.min len' len)), h, nx)
      | none => none)
    | none => none)
  | _ => none
noncomputable def sRngm (vs : List AV) (h : T AO) (nx : Nat) : Out := match vs with
  | [.mnil] => newObj h nx (.miter none 0 [] 0) (.ptr nx 0)
  | [.mp id] => (match h.get id with
    | some (.map _ c _) => newObj h nx (.miter (some id) c [] c) (.ptr nx 0)
    | _ => none)
  | _ => none

noncomputable def sop (k : SK) : List AV → T AO → Nat → Out := match k with
  | .s2b => sS2b | .mstr => sMstr | .alloc z => sAlloc z | .box => sBox | .bsl b n e z a => sBsl b n e z a | .st n => sSt n | .mu s => sMu s | .del s => sDel s
  | .mkm s => sMkm s | .mks b e z => sMks b e z | .app b e => sApp b e | .appz b e z => sAppz b e z | .cpy e => sCpy e | .rngm => sRngm

/-- the next entry of a map that is gone through: one answer for each that may come -/
noncomputable def memN (n : Nat) : List Nat → Bool
  | [] => false
  | x :: r => match Nat.beq x n with
    | true => true
    | false => memN n r
noncomputable def leftOf (seen : List Nat) : List (AV × AV × Nat) → List (AV × AV × Nat)
  | [] => []
  | e :: r => match memN e.2.2 seen with
    | true => leftOf seen r
    | false => e :: leftOf seen r
def allBefore (since : Nat) : List (AV × AV × Nat) → Bool
  | [] => true
  | e :: r => match Nat.blt e.2.2 since with
    | true => allBefore since r
    | false => false
def someBefore (st : Nat) : List (AV × AV × Nat) → Bool
  | [] => false
  | e :: r => match Nat.blt e.2.2 st with
    | true => true
    | false => someBefore st r
/-- the model does not know how it goes on where all that was there is gone, and new ones are -/
def nextKnown (st : Nat) (seen : List Nat) (es : List (AV × AV × Nat)) : Bool := match seen with
  | [] => true
  | _ => match es with
    | [] => true
    | _ => someBefore st es
noncomputable def nextOuts (v : AV) (h : T AO) : Option (List (AV × T AO)) := match v with
  | .ptr id 0 => (match h.get id with
    | some (.miter none _ _ _) => some [(.tup [.bool false], h)]
    | some (.miter (some m) since seen st) => (match h.get m with
      | some (.map es c _) =>
        (match allBefore since (leftOf seen es) with
        | true => (match nextKnown st seen es with
          | true => (match leftOf seen es with
            | [] => some [(.tup [.bool false], h)]
            | l => some (l.map fun e => (.tup [.bool true, e.1, e.2.1], h.set id (.miter (some m) since (e.2.2 :: seen) c))))
          | false => none)
        | false => none)
      | _ => none)
    | _ => none)
  | _ => none

/-! frames -/
noncomputable def put (fr : AF) (d : Option Nat) (v : AV) : AF :=
  match d with
  | none => fr
  | some t => { fr with tm := fr.tm.set t v }

def exitTo (id : Nat) : List AI → Option (List AI)
  | .blk id' :: k => match Nat.beq id' id with
    | true => some k
    | false => exitTo id k
  | _ :: k => exitTo id k
  | [] => none
def findLabel (l : Nat) : DC → Option DC
  | .seq a b => match findLabel l a with
    | some r => some (.seq r b)
    | none => findLabel l b
  | .label l' => match Nat.beq l' l with
    | true => some .skip
    | false => none
  | _ => none
def gotoIn (l : Nat) : List AI → Option (List AI)
  | .scp body :: k => match findLabel l body with
    | some r => some (.c r :: .scp body :: k)
    | none => gotoIn l k
  | _ :: k => gotoIn l k
  | [] => none

/-- the caller's operation is done -/
noncomputable def finish (fr : AF) (v : AV) : Option AF :=
  match fr.todo with
  | .opsw d l :: k => some { fr with tm := (match d with | none => fr.tm | some t => fr.tm.set t v), todo := (match l with | [] => k | l => .ops l :: k) }
  | .drw d re l :: k => some { fr with tm := (match d with | none => fr.tm | some t => fr.tm.set t v), todo := .drr re l :: k }
  | .rf l :: k => some { fr with todo := .endrf l :: k }
  | _ => none

abbrev FT := T DF
abbrev Handler := List AV → T AO → Nat → Out
abbrev Big := T Handler

noncomputable def enter (ft : FT) (fr : AF) (cs : List AF) (h : T AO) (nx : Nat) (f : Nat) (args : List AV) : Res :=
  match ft.get f with
  | some df => .go { fr := { fn := f, tm := treeOf args, todo := [.c df.body], rnd := none, dfs := [], ret := false }, cs := fr :: cs, h, nx }
  | none => .bad

noncomputable def setParams (tm : T AV) : List Nat → List AV → Option (T AV)
  | [], [] => some tm
  | t :: ts, v :: vs => setParams (tm.set t v) ts vs
  | _, _ => none

/-- fr: the caller, waiting -/
noncomputable def callFn (ft : FT) (big : Big) (fr : AF) (cs : List AF) (h : T AO) (nx : Nat) (f : Nat) (args : List AV) : Res :=
  match big.get f with
  | some hd => (match hd args h nx with
    | some (v, h, nx) => (match finish fr v with
      | some fr => .go { fr, cs, h, nx }
      | none => .bad)
    | none => enter ft fr cs h nx f args)
  | none => enter ft fr cs h nx f args
noncomputable def callVal (ft : FT) (big : Big) (fr : AF) (cs : List AF) (h : T AO) (nx : Nat) (f : AV) (args : List AV) : Res :=
  match f with
  | .fv fn first cap => callFn ft big fr cs h nx fn (first ++ (args ++ cap))
  | .fy l => (match h.get l with
    | some (.loop fn tm ps asg body _ _ _) => (match setParams tm ps args with
      | some tm => .go { fr := { fn, tm, todo := [.c asg, .br, .c body], rnd := some l, dfs := [], ret := false }, cs := fr :: cs, h, nx }
      | none => .bad)
    | _ => .bad)
  | _ => .bad

noncomputable def guardOk (tm : T AV) (env : List AV) : Option (DX × Bool) → Option Bool
  | none => some true
  | some (x, w) => match evalX tm env x with
    | some (.bool b) => some (Bool.rec (Bool.rec true false w) w b)
    | some _ => some false
    | none => none

noncomputable def evalQ (tm : T AV) (env : List AV) (h : T AO) (q : DQ) : Option AV :=
  match guardOk tm env q.g with
  | some b => (match b with
    | true => (match evalXs tm env q.xs with
      | some vs => qop q.k vs h
      | none => none)
    | false => some .undef)
  | none => none

noncomputable def evalQs (tm : T AV) (h : T AO) (qs : List DQ) : List AV → Option (List AV) :=
  List.rec (motive := fun _ => List AV → Option (List AV)) (fun env => some env)
    (fun q _ ih env => match evalQ tm env h q with
      | some v => ih (v :: env)
      | none => none) qs

noncomputable def writeOuts (tm : T AV) (env : List AV) : List (Nat × Nat) → T AV
  | [] => tm
  | (t, j) :: r => writeOuts (tm.set t (nth env j)) env r

/-- the last operation; fr: the frame, as it waits; tm: its temporaries ahead of the segment's own outs are the frame's -/
noncomputable def doFin (ft : FT) (big : Big) (tm : T AV) (env : List AV) (fr : AF) (cs : List AF) (h : T AO) (nx : Nat) (f : Fin) : Res :=
  match f with
  | .nop => (match finish fr .undef with
    | some fr => .go { fr, cs, h, nx }
    | none => .bad)
  | .s _ g k xs => (match guardOk tm env g with
    | some b => (match b with
    | true => (match evalXs tm env xs with
      | some vs => (match sop k vs h nx with
        | some (v, h, nx) => (match finish fr v with
          | some fr => .go { fr, cs, h, nx }
          | none => .bad)
        | none => .bad)
      | none => .bad)
    | false => (match finish fr .undef with
      | some fr => .go { fr, cs, h, nx }
      | none => .bad))
    | none => .bad)
  | .call _ g f xs => (match guardOk tm env g with
    | some b => (match b with
    | true => (match evalXs tm env xs with
      | some vs => callFn ft big fr cs h nx f vs
      | none => .bad)
    | false => (match finish fr .undef with
      | some fr => .go { fr, cs, h, nx }
      | none => .bad))
    | none => .bad)
  | .callv _ g x xs => (match guardOk tm env g with
    | some b => (match b with
    | true => (match evalX tm env x with
      | some f => (match evalXs tm env xs with
        | some vs => callVal ft big fr cs h nx f vs
        | none => .bad)
      | none => .bad)
    | false => (match finish fr .undef with
      | some fr => .go { fr, cs, h, nx }
      | none => .bad))
    | none => .bad)
  | .qs _ q => (match evalQ tm env h q with
    | some v => (match finish fr v with
      | some fr => .go { fr, cs, h, nx }
      | none => .bad)
    | none => .bad)
  | .nx _ x => (match evalX tm env x with
    | some v => (match nextOuts v h with
      | some l => .fork (l.filterMap fun (v, h) => match finish fr v with
        | some fr => some { fr, cs, h, nx }
        | none => none)
      | none => .bad)
    | none => .bad)

def Fin.dst : Fin → Option Nat
  | .nop => Option.none
  | .s d _ _ _ => d
  | .call d _ _ _ => d
  | .callv d _ _ _ => d
  | .nx d _ => d
  | .qs d _ => d

noncomputable def doSeg (ft : FT) (big : Big) (fr : AF) (k : List AI) (cs : List AF) (h : T AO) (nx : Nat) (sg : Seg) (r : List Seg) : Res :=
  match evalQs fr.tm h sg.qs [] with
  | some env => doFin ft big fr.tm env { fr with tm := writeOuts fr.tm env sg.outs, todo := .opsw sg.fin.dst r :: k } cs h nx sg.fin
  | none => .bad

noncomputable def recheck (tm : T AV) (h : T AO) : List (Nat × DQ) → Bool
  | [] => true
  | (t, q) :: r => match evalQ tm [] h q, tm.get t with
    | some v, some u => (match AV.beq v u with
      | true => recheck tm h r
      | false => false)
    | _, _ => false

noncomputable def results (h : T AO) (tm : T AV) : List DR → Option (List AV)
  | [] => some []
  | r :: rs =>
    match (match r with
      | .t n => tm.get n
      | .c1 a => (match tm.get a with
        | some (.ptr id off) => load1 h id off
        | _ => none)
      | .cn n a => (match tm.get a with
        | some (.ptr id off) => (match loadCells h id off n with
          | some l => some (.agg l)
          | none => none)
        | _ => none)), results h tm rs with
    | some v, some l => some (v :: l)
    | _, _ => none
def tuple : List AV → AV
  | [v] => v
  | [] => .undef
  | l => .tup l

noncomputable def retTo (cs : List AF) (h : T AO) (nx : Nat) (v : AV) : Res :=
  match cs with
  | [] => .done v h nx
  | c :: cs => match finish c v with
    | some c => .go { fr := c, cs, h, nx }
    | none => .bad

/-- a frame's code is at its end, or jumps out of it -/
noncomputable def leave (fr : AF) (cs : List AF) (h : T AO) (nx : Nat) (jump : Option DC) : Res :=
  match fr.rnd with
  | none => (match jump with
    | none => .go { fr := { fr with ret := true }, cs, h, nx }
    | some .ret => .go { fr := { fr with ret := true }, cs, h, nx }
    | _ => .bad)
  | some l => (match h.get l with
    | some (.loop fn tm ps asg body _ _ d) =>
      retTo cs (h.set l (.loop fn tm ps asg body (match jump with | none => 0 | some _ => 2) jump d)) nx (.bool (match jump with | none => true | some _ => false))
    | _ => .bad)

noncomputable def stepRet (ft : FT) (fr : AF) (cs : List AF) (h : T AO) (nx : Nat) : Res :=
  match fr.dfs with
  | d :: ds => (match h.get d with
    | some .dfr => .go { fr := { fr with dfs := ds }, cs, h := h.del d, nx }
    | _ => .bad)
  | [] => (match ft.get fr.fn with
    | some df => (match results h fr.tm df.res with
      | some l => retTo cs h nx (tuple l)
      | none => .bad)
    | none => .bad)

noncomputable def stepRf (ft : FT) (big : Big) (fr : AF) (cs : List AF) (h : T AO) (nx : Nat) (k : List AI) (f : DX) (ps : List Nat) (asg body : DC) : Res :=
  match evalX fr.tm [] f with
  | some fv => (match fr.rnd with
    | some l0 => (match h.get l0 with
      | some (.loop _ _ _ _ _ _ _ d) => callVal ft big { fr with todo := .rf nx :: k } cs (h.set nx (.loop fr.fn fr.tm ps asg body 0 none d)) (Nat.add nx 1) fv [.fy nx]
      | _ => .bad)
    | none => callVal ft big { fr with todo := .rf (Nat.add nx 1) :: k, dfs := nx :: fr.dfs } cs ((h.set nx .dfr).set (Nat.add nx 1) (.loop fr.fn fr.tm ps asg body 0 none nx)) (Nat.add nx 2) fv [.fy (Nat.add nx 1)])
  | none => .bad

/-- code that is not a row of codes -/
noncomputable def stepC1 (ft : FT) (big : Big) (fr : AF) (cs : List AF) (h : T AO) (nx : Nat) (k : List AI) (c : DC) : Res :=
  match c with
  | .skip => .go { fr := { fr with todo := k }, cs, h, nx }
  | .label _ => .go { fr := { fr with todo := k }, cs, h, nx }
  | .seq a b => .go { fr := { fr with todo := .c a :: .c b :: k }, cs, h, nx }
  | .cond x a b => (match evalX fr.tm [] x with
    | some (.bool t) => .go { fr := { fr with todo := .c (match t with | true => a | false => b) :: k }, cs, h, nx }
    | _ => .bad)
  | .block id a => .go { fr := { fr with todo := .c a :: .blk id :: k }, cs, h, nx }
  | .loop a => .go { fr := { fr with todo := .c a :: .lp a :: k }, cs, h, nx }
  | .scope a => .go { fr := { fr with todo := .c a :: .scp a :: k }, cs, h, nx }
  | .goto l => (match gotoIn l k with
    | some k => .go { fr := { fr with todo := k }, cs, h, nx }
    | none => leave fr cs h nx (some (.goto l)))
  | .exit id => (match exitTo id k with
    | some k => .go { fr := { fr with todo := k }, cs, h, nx }
    | none => leave fr cs h nx (some (.exit id)))
  | .ret => leave fr cs h nx (some .ret)
  | .ops l => (match l with
    | [] => .go { fr := { fr with todo := k }, cs, h, nx }
    | sg :: r => doSeg ft big fr k cs h nx sg r)
  | .dr l => .go { fr := { fr with todo := .dr l :: k }, cs, h, nx }
  | .drt t => .fork ((leaves t).map fun l => { fr := { fr with todo := .dr l :: k }, cs, h, nx })
  | .rf f ps asg body => stepRf ft big fr cs h nx k f ps asg body
  | .bad => .bad
noncomputable def stepC (ft : FT) (big : Big) (fr : AF) (cs : List AF) (h : T AO) (nx : Nat) (k : List AI) (c : DC) : Res :=
  match c with
  | .seq a b => stepC1 ft big fr cs h nx (.c b :: k) a
  | c => stepC1 ft big fr cs h nx k c

noncomputable def stepDr (ft : FT) (big : Big) (fr : AF) (cs : List AF) (h : T AO) (nx : Nat) (k : List AI) (l : List DI) : Res :=
  match l with
  | [] => .go { fr := { fr with todo := k }, cs, h, nx }
  | .q _ d q :: r => (match evalQ fr.tm [] h q with
    | some v => .go { fr := { fr with tm := fr.tm.set d v, todo := .dr r :: k }, cs, h, nx }
    | none => .bad)
  | .s _ f re :: r => doFin ft big fr.tm [] { fr with todo := .drw f.dst re r :: k } cs h nx f

noncomputable def stepRun (ft : FT) (big : Big) (fr : AF) (cs : List AF) (h : T AO) (nx : Nat) (todo : List AI) : Res :=
  match todo with
  | [] => leave fr cs h nx none
  | i :: k => match i with
    | .c c => stepC ft big fr cs h nx k c
    | .ops l => (match l with
      | [] => .go { fr := { fr with todo := k }, cs, h, nx }
      | sg :: r => doSeg ft big fr k cs h nx sg r)
    | .blk _ => .go { fr := { fr with todo := k }, cs, h, nx }
    | .scp _ => .go { fr := { fr with todo := k }, cs, h, nx }
    | .lp body => .go { fr := { fr with todo := .c body :: .lp body :: k }, cs, h, nx }
    | .dr l => stepDr ft big fr cs h nx k l
    | .drr re l => (match recheck fr.tm h re with
      | true => .go { fr := { fr with todo := .dr l :: k }, cs, h, nx }
      | false => .bad)
    | .br => (match fr.rnd with
      | some l => (match h.get l with
        | some (.loop fn tm ps asg body 0 pd d) => .go { fr := { fr with todo := k }, cs, h := h.set l (.loop fn tm ps asg body 1 pd d), nx }
        | _ => .bad)
      | none => .bad)
    | .endrf l => (match h.get l with
      | some (.loop fn tm ps asg body st pd d) => (match Nat.beq st 1 with
        | true => .bad
        | false => (match Nat.beq fn fr.fn with
          | true => .go { fr := { fr with todo := (match pd with | some c => .c c :: k | none => k) }, cs, h := h.set l (.loop fn tm ps asg body 3 pd d), nx }
          | false => .bad))
      | _ => .bad)
    | _ => .bad

noncomputable def step (ft : FT) (big : Big) (s : St) : Res :=
  match s with
  | ⟨fr, cs, h, nx⟩ => match fr with
    | ⟨fn, tm, todo, rnd, dfs, ret⟩ => match ret with
      | true => stepRet ft ⟨fn, tm, todo, rnd, dfs, ret⟩ cs h nx
      | false => stepRun ft big ⟨fn, tm, todo, rnd, dfs, ret⟩ cs h nx todo

noncomputable def run (ft : FT) (big : Big) (n : Nat) : St → Res :=
  Nat.rec (motive := fun _ => St → Res) (fun s => .go s)
    (fun _ ih s => match step ft big s with
      | .go s => ih s
      | .fork l => (match l with
        | [s] => ih s
        | _ => .bad)
      | .done v h nx => .done v h nx
      | .bad => .bad) n

end Go.Md
end
