/- An abstract machine for the model's Go: definitions. -/
import GoSem.Step
import Derived.Laws.Sem
namespace Go.Ex

/-- Binary numbers: keys of the trees. -/
inductive Bn where
  | e | o (b : Bn) | i (b : Bn)
  deriving Inhabited, Repr, DecidableEq

def Bn.succ : Bn → Bn
  | .e => .i .e
  | .o b => .i b
  | .i b => .o b.succ

def Bn.beq : Bn → Bn → Bool
  | .e, .e => true
  | .o a, .o b => a.beq b
  | .i a, .i b => a.beq b
  | _, _ => false

inductive Tr (α : Type) where
  | lf
  | nd (l : Tr α) (v : Option α) (r : Tr α)
  deriving Inhabited

def Tr.get {α : Type} : Tr α → Bn → Option α
  | .lf, _ => none
  | .nd _ v _, .e => v
  | .nd l _ _, .o b => l.get b
  | .nd _ _ r, .i b => r.get b

def Tr.set {α : Type} (x : Option α) : Tr α → Bn → Tr α
  | .lf, .e => .nd .lf x .lf
  | .lf, .o b => .nd (Tr.set x .lf b) none .lf
  | .lf, .i b => .nd .lf none (Tr.set x .lf b)
  | .nd l _ r, .e => .nd l x r
  | .nd l v r, .o b => .nd (Tr.set x l b) v r
  | .nd l v r, .i b => .nd l v (Tr.set x r b)

/-- Abstract values. -/
inductive AV where
  | b (x : Bool)
  | i (k : IntKind) (n : Int)
  | s (l : List Nat)
  | p0
  | p (a : Bn) (o : Nat)
  | sn
  | sl (a : Bn) (o n c : Nat) (x : Bool) (z : Nat)
  | se
  | m0
  | m (a : Bn)
  | f (fn : Bn) (first caps : List AV)
  | yl (a : Bn)
  | f0
  | it (t : Nat) (v : AV)
  | i0
  | ag (l : List AV)
  | tu (l : List AV)
  | q (n : Nat)
  deriving Inhabited, Repr

mutual
def AV.beq : AV → AV → Bool
  | .b x, .b y => x == y
  | .i k n, .i k' n' => decide (k = k') && decide (n = n')
  | .s l, .s l' => l == l'
  | .p0, .p0 => true
  | .p a o, .p a' o' => a.beq a' && o == o'
  | .sn, .sn => true
  | .sl a o n c x z, .sl a' o' n' c' x' z' => a.beq a' && o == o' && n == n' && c == c' && x == x' && z == z'
  | .se, .se => true
  | .m0, .m0 => true
  | .m a, .m a' => a.beq a'
  | .f g x y, .f g' x' y' => g.beq g' && AV.beqs x x' && AV.beqs y y'
  | .yl a, .yl a' => a.beq a'
  | .f0, .f0 => true
  | .it t v, .it t' v' => t == t' && v.beq v'
  | .i0, .i0 => true
  | .ag l, .ag l' => AV.beqs l l'
  | .tu l, .tu l' => AV.beqs l l'
  | .q n, .q n' => n == n'
  | _, _ => false
def AV.beqs : List AV → List AV → Bool
  | [], [] => true
  | x :: l, y :: l' => x.beq y && AV.beqs l l'
  | _, _ => false
end

inductive AOpd where
  | v (b : Bn)
  | s (n : Nat)
  | k (x : AV)
  deriving Inhabited, Repr

/-- How many cells a value of a type is: a lone cell, or an aggregate of so many. -/
inductive Sz where
  | one
  | ag (n : Nat)
  deriving Inhabited, Repr

inductive Lf where
  | i (k : IntKind)
  | b
  | s
  deriving Inhabited, Repr, DecidableEq

/-- What is compared. -/
inductive EC where
  | no | b | s | p | sl | m | f | it
  | ag (l : List Lf)
  deriving Inhabited, Repr

/-- Operations that touch no memory. -/
inductive PK where
  | mv (x : AOpd)
  | pick (c a b : AOpd)
  | build (zero : List AV) (parts : List (Nat × Nat × AOpd))
  | nc (x : AOpd)
  | bin (op : BinOp) (c : EC) (x y : AOpd)
  | un (op : UnOp) (x : AOpd)
  | cvI (k : IntKind) (x : AOpd)
  | mkI (t : Nat) (x : AOpd)
  | mkF (fn : Bn) (first caps : List AOpd)
  | slS (sz : Nat) (x : AOpd) (lo hi mx : Option AOpd)
  | slT (x : AOpd) (lo hi : Option AOpd)
  | fa (off : Nat) (x : AOpd)
  | fld (off : Nat) (sz : Sz) (x : AOpd)
  | iaS (sz : Nat) (x i : AOpd)
  | iaA (sz len : Nat) (x i : AOpd)
  | ixA (sz : Sz) (len : Nat) (x i : AOpd)
  | ixT (x i : AOpd)
  | ta (t : Nat) (zero : AV) (ok : Bool) (x : AOpd)
  | ex (n : Nat) (x : AOpd)
  | len (x : AOpd)
  | lenT (x : AOpd)
  | lenA (n : Nat)
  | min (xs : List AOpd)
  | max (xs : List AOpd)
  deriving Inhabited, Repr

/-- Operations that read memory. -/
inductive RK where
  | ld (sz : Sz) (x : AOpd)
  | lk (c : EC) (zero : AV) (ok : Bool) (m k : AOpd)
  | lenM (x : AOpd)
  | cvBS (x : AOpd)
  | en (it : AOpd)
  deriving Inhabited, Repr

/-- Operations that make one block. -/
inductive MK where
  | alloc (cells : List AV)
  | box (x : AOpd)
  | bsl (sz n : Nat) (zero : List AV) (parts : List (Nat × Nat × AOpd))
  | mkM
  | mkS (sz : Nat) (zero : List AV) (l c : AOpd)
  | rngT (x : AOpd)
  deriving Inhabited, Repr

/-- Other operations. -/
inductive EK where
  | st (sz : Nat) (a x : AOpd)
  | mu (c : EC) (m k x : AOpd)
  | del (c : EC) (m k : AOpd)
  | rngM (x : AOpd)
  | nx (str : Bool) (it : AOpd)
  | app (sz : Nat) (s x : AOpd)
  | appT (s x : AOpd)
  | clone (x : AOpd)
  | callF (fn : Bn) (args : List AOpd)
  | callV (f : AOpd) (args : List AOpd)
  | inv (tbl : List (Nat × Bn)) (r : AOpd) (args : List AOpd)
  | dfr (f : AOpd) (args : List AOpd)
  | rcv
  | pan (x : AOpd)
  deriving Inhabited, Repr

inductive AK where
  | p (k : PK) | r (k : RK) | m (k : MK) | e (k : EK)
  deriving Inhabited, Repr

/-- An operation: what it does, whether it is wanted, where its value is kept. -/
structure AP where
  k : AK
  g : Option (AOpd × Bool)
  d : Option Bn
  deriving Inhabited, Repr

/-- What stands in a region whose order is open. -/
inductive DE where
  | p (i : Nat) (x : AP)
  | m (i : Nat) (x : AP)
  | e (i : Nat) (ms : List Nat) (x : AP)
  | rc (n : Nat) (g : Option (AOpd × Bool)) (k : RK)
  deriving Inhabited, Repr

inductive AJ where
  | ex (id : Nat)
  | gt (l : Nat)
  | rt
  deriving Inhabited, Repr, DecidableEq

inductive AC where
  | sk
  | rg (ops : List AP)
  | dr (ops : List DE)
  | sq (a b : AC)
  | cd (c : AOpd) (a b : AC)
  | bl (id : Nat) (a : AC)
  | lp (a : AC)
  | rf (f : AOpd) (params : List Bn) (asg body : AC)
  | ex (id : Nat)
  | sc (a : AC)
  | sg (a b : AC)
  | lb (l : Nat)
  | gt (l : Nat)
  | rt
  deriving Inhabited, Repr

inductive LS where
  | ready | busy | done
  deriving Inhabited, Repr, DecidableEq

/-- Abstract objects. -/
inductive AO where
  | c (l : List AV)
  | ro (l : List AV)
  | m (es : List (AV × AV × Nat)) (clock : Nat)
  | ti (l : List Nat) (pos : Nat)
  | mi (m : Option Bn) (since : Nat) (seen : List Nat) (last : Nat)
  | lp (st : LS) (pend : Option AJ) (env : Tr AV) (params : List Bn) (asg body : AC) (df : Bn)
  | df
  deriving Inhabited

/-- A state: the blocks that may be written, those that may be read alone, the next block's number. -/
structure St where
  h : Tr AO
  lo : List (Tr AO)
  nx : Bn
  deriving Inhabited

def lows : List (Tr AO) → Bn → Option AO
  | [], _ => none
  | t :: l, a => match t.get a with
    | some o => some o
    | none => lows l a

def St.get (s : St) (a : Bn) : Option AO :=
  match s.h.get a with
  | some o => some o
  | none => lows s.lo a

inductive AD where
  | call (fn : Bn) (args : List AV)
  | coll (a : Bn)
  deriving Inhabited, Repr

structure Fr where
  env : Tr AV
  df : List AD
  pn : Option AV
  rc : Bool
  ro : Option (Bn × Bn)
  deriving Inhabited

inductive Out where
  | n (f : Fr) (s : St)
  | j (j : AJ) (f : Fr) (s : St)
  | p (v : AV) (f : Fr) (s : St)
  | x (why : String)
  deriving Inhabited

inductive COut where
  | r (v : AV) (s : St) (rc : Bool)
  | p (v : AV) (s : St) (rc : Bool)
  | x (why : String)
  deriving Inhabited

inductive ARes where
  | t (b : Bn)
  | c (b : Bn) (sz : Sz)
  deriving Inhabited, Repr

structure AF where
  params : List (Option Bn)
  code : AC
  res : List ARes
  join : Bool
  kept : Nat
  deriving Inhabited, Repr

-- lists
def nth {α : Type} : List α → Nat → Option α
  | [], _ => none
  | x :: _, 0 => some x
  | _ :: l, n + 1 => nth l n

/-- So many things of a list, from a place on; all must be there. -/
def cut {α : Type} : List α → Nat → Nat → Option (List α)
  | _, 0, 0 => some []
  | [], _, _ => none
  | x :: l, 0, n + 1 => (cut l 0 n).map (x :: ·)
  | _ :: l, o + 1, n => cut l o n

/-- Things put over those of a list, from a place on. -/
def put {α : Type} : List α → Nat → List α → Option (List α)
  | l, 0, [] => some l
  | _ :: l, 0, y :: ys => (put l 0 ys).map (y :: ·)
  | x :: l, o + 1, ys => (put l o ys).map (x :: ·)
  | [], _, _ => none

def opd (scr : List AV) (env : Tr AV) : AOpd → Option AV
  | .v b => env.get b
  | .s n => nth scr n
  | .k x => some x

def opds (scr : List AV) (env : Tr AV) : List AOpd → Option (List AV)
  | [] => some []
  | x :: l => match opd scr env x with
    | none => none
    | some v => match opds scr env l with
      | none => none
      | some vs => some (v :: vs)

def cells : AV → Option (List AV)
  | .ag l => some l
  | .q _ => none
  | v => some [v]

/-- May the value lie in one cell? -/
def AV.one : AV → Bool
  | .ag _ => false
  | .tu _ => false
  | .q _ => false
  | _ => true
def ones : List AV → Bool
  | [] => true
  | v :: l => v.one && ones l

def ofCells (sz : Sz) (l : List AV) (off : Nat) : Option AV :=
  match sz with
  | .one => nth l off
  | .ag n => (cut l off n).map .ag

def wrapA (k : IntKind) (n : Int) : Int := if k.min ≤ n ∧ n ≤ k.max then n else k.wrap n

def natBits (k : IntKind) (a b : Int) (g : Nat → Nat → Nat) : Option AV :=
  match a, b with
  | .ofNat x, .ofNat y => if x < 2 ^ k.bits ∧ y < 2 ^ k.bits then some (.i k (wrapA k (.ofNat (g x y)))) else none
  | _, _ => none

def intBin (op : BinOp) (k : IntKind) (a b : Int) : Option AV :=
  match op with
  | .add => some (.i k (wrapA k (a + b)))
  | .sub => some (.i k (wrapA k (a - b)))
  | .mul => some (.i k (wrapA k (a * b)))
  | .quo => if b = 0 then none else some (.i k (wrapA k (a.tdiv b)))
  | .rem => if b = 0 then none else some (.i k (a.tmod b))
  | .and => natBits k a b fun x y => x &&& y
  | .or => natBits k a b fun x y => x ||| y
  | .xor => natBits k a b fun x y => x ^^^ y
  | .andNot => natBits k a b fun x y => x ^^^ (x &&& y)
  | .eql => some (.b (decide (a = b)))
  | .neq => some (.b (!decide (a = b)))
  | .lss => some (.b (decide (a < b)))
  | .leq => some (.b (decide (a ≤ b)))
  | .gtr => some (.b (decide (b < a)))
  | .geq => some (.b (decide (b ≤ a)))
  | _ => none

def shiftBin (op : BinOp) (k : IntKind) (a b : Int) : Option AV :=
  match a, b with
  | .ofNat x, .ofNat y => match op with
    | .shl => some (.i k (wrapA k (.ofNat (x * 2 ^ min y k.bits))))
    | .shr => some (.i k (.ofNat (x / 2 ^ min y k.bits)))
    | _ => none
  | _, _ => none

/-- Are two values of a kind, that hold no address, the same? -/
def leafEq : Lf → AV → AV → Option Bool
  | .b, .b x, .b y => some (x == y)
  | .i k, .i k' n, .i k'' n' => if k = k' ∧ k = k'' then some (decide (n = n')) else none
  | .s, .s l, .s l' => some (l == l')
  | _, _, _ => none

def cellsEq : List Lf → List AV → List AV → Option Bool
  | [], [], [] => some true
  | f :: fs, x :: l, y :: l' => match leafEq f x y with
    | none => none
    | some e => match cellsEq fs l l' with
      | none => none
      | some r => some (e && r)
  | _, _, _ => none

def valEq : EC → AV → AV → Option Bool
  | .b, .b x, .b y => some (x == y)
  | .p, .p0, .p0 => some true
  | .p, .p0, .p _ _ => some false
  | .p, .p _ _, .p0 => some false
  | .sl, .sn, .sn => some true
  | .sl, .sn, .sl .. => some false
  | .sl, .sl .., .sn => some false
  | .m, .m0, .m0 => some true
  | .m, .m0, .m _ => some false
  | .m, .m _, .m0 => some false
  | .f, .f0, .f0 => some true
  | .f, .f0, .f .. => some false
  | .f, .f .., .f0 => some false
  | .ag fs, .ag l, .ag l' => cellsEq fs l l'
  | _, _, _ => none

def eqOp (op : BinOp) : Option Bool → Option AV
  | none => none
  | some e => match op with
    | .eql => some (.b e)
    | .neq => some (.b (!e))
    | _ => none

def binA (op : BinOp) (c : EC) (x y : AV) : Option AV :=
  match x with
  | .i k a => match y with
    | .i k' b => match op with
      | .shl => shiftBin .shl k a b
      | .shr => shiftBin .shr k a b
      | op => if k = k' then intBin op k a b else none
    | _ => none
  | .s a => match y with
    | .s b => match op with
      | .add => if a.length + b.length < 1000000 then some (.s (a ++ b)) else none
      | .eql => some (.b (a == b))
      | .neq => some (.b (!(a == b)))
      | _ => none
    | _ => none
  | x => eqOp op (valEq c x y)

def unA (op : UnOp) (x : AV) : Option AV :=
  match op, x with
  | .not, .b b => some (.b (!b))
  | .neg, .i k n => some (.i k (wrapA k (0 - n)))
  | .xor, .i k n => if k.signed then none else intBin .xor k k.max n
  | _, _ => none

def asNat : AV → Option Nat
  | .i _ (.ofNat n) => some n
  | _ => none

def optNat (scr : List AV) (env : Tr AV) (d : Nat) : Option AOpd → Option Nat
  | none => some d
  | some x => match opd scr env x with
    | some v => asNat v
    | none => none

def sliceA (sz : Nat) (x : AV) (lo : Nat) (hi mx : Option Nat) : Option AV :=
  match x with
  | .sn => if lo == 0 && hi.getD 0 == 0 && mx.getD 0 == 0 then some .sn else none
  | .sl a o n c ex z =>
    if z == sz then
      match mx with
      | some m => if m ≤ c && hi.getD n ≤ m && lo ≤ hi.getD n then
          (if lo == m then some (.sl a o 0 0 true z) else some (.sl a (o + lo * sz) (hi.getD n - lo) (m - lo) true z)) else none
      | none => if hi.getD n ≤ c && lo ≤ hi.getD n then
          (if lo < c then some (.sl a (o + lo * sz) (hi.getD n - lo) (c - lo) ex z)
           else if ex then some (.sl a o 0 0 true z) else some .se) else none
    else none
  | _ => none

def fillA (l : List AV) : List (Nat × Nat × AV) → Option (List AV)
  | [] => some l
  | (o, n, v) :: rest => match cells v with
    | none => none
    | some c => if c.length == n then
        match put l o c with
        | none => none
        | some l' => fillA l' rest
      else none

def partsA (scr : List AV) (env : Tr AV) : List (Nat × Nat × AOpd) → Option (List (Nat × Nat × AV))
  | [] => some []
  | (o, n, x) :: l => match opd scr env x with
    | none => none
    | some v => match partsA scr env l with
      | none => none
      | some vs => some ((o, n, v) :: vs)

def minI (k : IntKind) (a : Int) : List AV → Option AV
  | [] => some (.i k a)
  | .i _ b :: l => minI k (if b < a then b else a) l
  | _ => none
def maxI (k : IntKind) (a : Int) : List AV → Option AV
  | [] => some (.i k a)
  | .i _ b :: l => maxI k (if b > a then b else a) l
  | _ => none

def fPick (c a b : AOpd) (scr : List AV) (env : Tr AV) : Option AV :=
  match opd scr env c with
  | some (.b true) => opd scr env a
  | some (.b false) => opd scr env b
  | _ => none
def fBuild (zero : List AV) (parts : List (Nat × Nat × AOpd)) (scr : List AV) (env : Tr AV) : Option AV :=
  match partsA scr env parts with
  | none => none
  | some ps => match fillA zero ps with
    | none => none
    | some c => some (.ag c)
def fNc (x : AOpd) (scr : List AV) (env : Tr AV) : Option AV :=
  match opd scr env x with
  | some (.p a o) => some (.p a o)
  | some (.f g a b) => some (.f g a b)
  | some (.yl a) => some (.yl a)
  | some (.it t v) => some (.it t v)
  | _ => none
def fBin (op : BinOp) (c : EC) (x y : AOpd) (scr : List AV) (env : Tr AV) : Option AV :=
  match opd scr env x with
  | none => none
  | some a => match opd scr env y with
    | none => none
    | some b => binA op c a b
def fUn (op : UnOp) (x : AOpd) (scr : List AV) (env : Tr AV) : Option AV :=
  match opd scr env x with
  | none => none
  | some a => unA op a
def fCvI (k : IntKind) (x : AOpd) (scr : List AV) (env : Tr AV) : Option AV :=
  match opd scr env x with
  | some (.i _ n) => some (.i k (wrapA k n))
  | _ => none
def fMkI (t : Nat) (x : AOpd) (scr : List AV) (env : Tr AV) : Option AV :=
  match opd scr env x with
  | none => none
  | some a => some (.it t a)
def fMkF (fn : Bn) (first caps : List AOpd) (scr : List AV) (env : Tr AV) : Option AV :=
  match opds scr env first with
  | none => none
  | some a => match opds scr env caps with
    | none => none
    | some b => some (.f fn a b)
def fSlS (sz : Nat) (x : AOpd) (lo hi mx : Option AOpd) (scr : List AV) (env : Tr AV) : Option AV :=
  match opd scr env x with
  | none => none
  | some v => match optNat scr env 0 lo with
    | none => none
    | some l =>
      match hi with
      | none => match mx with
        | none => sliceA sz v l none none
        | some _ => none
      | some h => match optNat scr env 0 (some h) with
        | none => none
        | some h => match mx with
          | none => sliceA sz v l (some h) none
          | some m => match optNat scr env 0 (some m) with
            | none => none
            | some m => sliceA sz v l (some h) (some m)
def fSlT (x : AOpd) (lo hi : Option AOpd) (scr : List AV) (env : Tr AV) : Option AV :=
  match opd scr env x with
  | some (.s t) => match optNat scr env 0 lo with
    | none => none
    | some l => match optNat scr env t.length hi with
      | none => none
      | some h => if l ≤ h && h ≤ t.length then some (.s ((t.take h).drop l)) else none
  | _ => none
def fFa (off : Nat) (x : AOpd) (scr : List AV) (env : Tr AV) : Option AV :=
  match opd scr env x with
  | some (.p a o) => some (.p a (o + off))
  | _ => none
def fFld (off : Nat) (sz : Sz) (x : AOpd) (scr : List AV) (env : Tr AV) : Option AV :=
  match opd scr env x with
  | some (.ag l) => ofCells sz l off
  | _ => none
def fIaS (sz : Nat) (x i : AOpd) (scr : List AV) (env : Tr AV) : Option AV :=
  match opd scr env i with
  | some (.i _ (.ofNat k)) => match opd scr env x with
    | some (.sl a o n _ _ _) => if k < n then some (.p a (o + k * sz)) else none
    | _ => none
  | _ => none
def fIaA (sz len : Nat) (x i : AOpd) (scr : List AV) (env : Tr AV) : Option AV :=
  match opd scr env i with
  | some (.i _ (.ofNat k)) => match opd scr env x with
    | some (.p a o) => if k < len then some (.p a (o + k * sz)) else none
    | _ => none
  | _ => none
def fIxA (sz : Sz) (len : Nat) (x i : AOpd) (scr : List AV) (env : Tr AV) : Option AV :=
  match opd scr env i with
  | some (.i _ (.ofNat k)) => match opd scr env x with
    | some (.ag l) => if k < len then ofCells sz l (k * (match sz with | .one => 1 | .ag n => n)) else none
    | _ => none
  | _ => none
def fIxT (x i : AOpd) (scr : List AV) (env : Tr AV) : Option AV :=
  match opd scr env i with
  | some (.i _ (.ofNat k)) => match opd scr env x with
    | some (.s l) => match nth l k with
      | some c => some (.i .u8 (.ofNat c))
      | none => none
    | _ => none
  | _ => none
def fTa (t : Nat) (zero : AV) (ok : Bool) (x : AOpd) (scr : List AV) (env : Tr AV) : Option AV :=
  match opd scr env x with
  | some (.it u v) => if u == t then some (if ok then .tu [v, .b true] else v) else if ok then some (.tu [zero, .b false]) else none
  | some .i0 => if ok then some (.tu [zero, .b false]) else none
  | _ => none
def fEx (n : Nat) (x : AOpd) (scr : List AV) (env : Tr AV) : Option AV :=
  match opd scr env x with
  | some (.tu l) => nth l n
  | _ => none
def fLen (x : AOpd) (scr : List AV) (env : Tr AV) : Option AV :=
  match opd scr env x with
  | some (.sl _ _ n _ _ _) => some (.i .i64 (.ofNat n))
  | some .sn => some (.i .i64 (.ofNat 0))
  | some .se => some (.i .i64 (.ofNat 0))
  | _ => none
def fLenT (x : AOpd) (scr : List AV) (env : Tr AV) : Option AV :=
  match opd scr env x with
  | some (.s l) => some (.i .i64 (.ofNat l.length))
  | _ => none
def fMin (xs : List AOpd) (scr : List AV) (env : Tr AV) : Option AV :=
  match opds scr env xs with
  | some (.i k a :: l) => minI k a l
  | _ => none
def fMax (xs : List AOpd) (scr : List AV) (env : Tr AV) : Option AV :=
  match opds scr env xs with
  | some (.i k a :: l) => maxI k a l
  | _ => none
def fMv (x : AOpd) (scr : List AV) (env : Tr AV) : Option AV := opd scr env x
def fLenA (n : Nat) (_scr : List AV) (_env : Tr AV) : Option AV := some (.i .i64 (.ofNat n))

def pureOp : PK → List AV → Tr AV → Option AV
  | .mv x => fMv x
  | .pick c a b => fPick c a b
  | .build z ps => fBuild z ps
  | .nc x => fNc x
  | .bin op c x y => fBin op c x y
  | .un op x => fUn op x
  | .cvI k x => fCvI k x
  | .mkI t x => fMkI t x
  | .mkF fn a b => fMkF fn a b
  | .slS sz x lo hi mx => fSlS sz x lo hi mx
  | .slT x lo hi => fSlT x lo hi
  | .fa off x => fFa off x
  | .fld off sz x => fFld off sz x
  | .iaS sz x i => fIaS sz x i
  | .iaA sz len x i => fIaA sz len x i
  | .ixA sz len x i => fIxA sz len x i
  | .ixT x i => fIxT x i
  | .ta t z ok x => fTa t z ok x
  | .ex n x => fEx n x
  | .len x => fLen x
  | .lenT x => fLenT x
  | .lenA n => fLenA n
  | .min xs => fMin xs
  | .max xs => fMax xs

-- reading
def rowOf (h : St) (a : Bn) : Option (List AV) :=
  match h.get a with
  | some (.c l) => some l
  | some (.ro l) => some l
  | _ => none

/-- a key's one leaf, or its cells (two or more, or none) -/
def keyEq (c : EC) (x y : AV) : Option Bool :=
  match c with
  | .ag [f] => leafEq f x y
  | .ag fs => match x with
    | .ag l => match y with
      | .ag l' => cellsEq fs l l'
      | _ => none
    | _ => none
  | _ => none

/-- is it a key? -/
def isKey {α : Type} (c : EC) (k : AV) (x : α) : Option α :=
  match keyEq c k k with
  | some _ => some x
  | none => none

def keyFind (c : EC) (k : AV) : List (AV × AV × Nat) → Option (Option AV)
  | [] => isKey c k none
  | (k', v, _) :: l => match keyEq c k k' with
    | none => none
    | some true => some (some v)
    | some false => keyFind c k l

def gLd (sz : Sz) (x : AOpd) (h : St) (scr : List AV) (env : Tr AV) : Option AV :=
  match opd scr env x with
  | some (.p a o) => match rowOf h a with
    | some l => ofCells sz l o
    | none => none
  | _ => none
def gLk (c : EC) (zero : AV) (ok : Bool) (m k : AOpd) (h : St) (scr : List AV) (env : Tr AV) : Option AV :=
  match opd scr env k with
  | none => none
  | some kv => match opd scr env m with
    | some .m0 => isKey c kv (if ok then .tu [zero, .b false] else zero)
    | some (.m a) => match h.get a with
      | some (.m es _) => match keyFind c kv es with
        | none => none
        | some none => some (if ok then .tu [zero, .b false] else zero)
        | some (some v) => some (if ok then .tu [v, .b true] else v)
      | _ => none
    | _ => none
def gLenM (x : AOpd) (h : St) (scr : List AV) (env : Tr AV) : Option AV :=
  match opd scr env x with
  | some .m0 => some (.i .i64 (.ofNat 0))
  | some (.m a) => match h.get a with
    | some (.m es _) => some (.i .i64 (.ofNat es.length))
    | _ => none
  | _ => none
def toBytes : List AV → Option (List Nat)
  | [] => some []
  | .i .u8 (.ofNat n) :: l => if n < 256 then match toBytes l with
    | none => none
    | some r => some (n :: r) else none
  | _ => none
def gCvBS (x : AOpd) (h : St) (scr : List AV) (env : Tr AV) : Option AV :=
  match opd scr env x with
  | some .sn => some (.s [])
  | some (.sl a o n _ _ z) => if z == 1 then match rowOf h a with
    | some l => match cut l o n with
      | some c => match toBytes c with
        | some bs => some (.s bs)
        | none => none
      | none => none
    | none => none else none
  | _ => none
def entFind (st : Nat) : List (AV × AV × Nat) → Option AV
  | [] => none
  | (k, v, b) :: l => if b == st then some (.tu [k, v]) else entFind st l
def lastOf : List Nat → Option Nat
  | [] => none
  | [x] => some x
  | _ :: l => lastOf l
def gEn (it : AOpd) (h : St) (scr : List AV) (env : Tr AV) : Option AV :=
  match opd scr env it with
  | some (.p a 0) => match h.get a with
    | some (.mi (some m) _ seen last) => match h.get m with
      | some (.m es clock) => if clock == last then match lastOf seen with
        | some st => entFind st es
        | none => none else none
      | _ => none
    | _ => none
  | _ => none

def readOp : RK → St → List AV → Tr AV → Option AV
  | .ld sz x => gLd sz x
  | .lk c z ok m k => gLk c z ok m k
  | .lenM x => gLenM x
  | .cvBS x => gCvBS x
  | .en it => gEn it

-- making: the value, made of the block's number, and the block
def rep {α : Type} (l : List α) : Nat → List α
  | 0 => []
  | n + 1 => l ++ rep l n

def hAlloc (cs : List AV) (a : Bn) (_scr : List AV) (_env : Tr AV) : Option (AV × AO) := some (.p a 0, .c cs)
def hBox (x : AOpd) (a : Bn) (scr : List AV) (env : Tr AV) : Option (AV × AO) :=
  match opd scr env x with
  | none => none
  | some v => match cells v with
    | none => none
    | some c => some (.p a 0, .c c)
def hBsl (sz n : Nat) (zero : List AV) (parts : List (Nat × Nat × AOpd)) (a : Bn) (scr : List AV) (env : Tr AV) : Option (AV × AO) :=
  match partsA scr env parts with
  | none => none
  | some ps => match fillA (rep zero n) ps with
    | none => none
    | some c => some (.sl a 0 n n true sz, .c c)
def hMkM (a : Bn) (_scr : List AV) (_env : Tr AV) : Option (AV × AO) := some (.m a, .m [] 0)
def hMkS (sz : Nat) (zero : List AV) (l c : AOpd) (a : Bn) (scr : List AV) (env : Tr AV) : Option (AV × AO) :=
  match opd scr env l with
  | some (.i .i64 (.ofNat n)) => match opd scr env c with
    | some (.i .i64 (.ofNat m)) => if n ≤ m && m ≤ 65536 then some (.sl a 0 n m true sz, .c (rep zero m)) else none
    | _ => none
  | _ => none
def hRngT (x : AOpd) (a : Bn) (scr : List AV) (env : Tr AV) : Option (AV × AO) :=
  match opd scr env x with
  | some (.s l) => some (.p a 0, .ti l 0)
  | _ => none
def makeOp : MK → Bn → List AV → Tr AV → Option (AV × AO)
  | .alloc cs => hAlloc cs
  | .box x => hBox x
  | .bsl sz n z ps => hBsl sz n z ps
  | .mkM => hMkM
  | .mkS sz z l c => hMkS sz z l c
  | .rngT x => hRngT x

-- effects: several outcomes
inductive EOut where
  | v (x : AV) (f : Fr) (s : St)
  | p (x : AV) (f : Fr) (s : St)
  | x (why : String)
  deriving Inhabited

def setH (s : St) (a : Bn) (o : AO) : St := ⟨s.h.set (some o) a, s.lo, s.nx⟩
def newH (s : St) (o : AO) : St := ⟨s.h.set (some o) s.nx, s.lo, s.nx.succ⟩
def killH (s : St) (a : Bn) : St := ⟨s.h.set none a, s.lo, s.nx⟩

def undefA : AV := .tu []

structure Ev where
  cd : AC → Fr → St → List Out
  cl : Bn → List AV → Option AV → St → List COut
  yl : Bn → List AV → St → List COut

def eBad (w : String) : List EOut := [.x w]

def eSt (sz : Nat) (a x : AOpd) (_e : Ev) (scr : List AV) (f : Fr) (s : St) : List EOut :=
  match opd scr f.env a with
  | some (.p b o) => match opd scr f.env x with
    | some v => match cells v with
      | some cv => if cv.length == sz && ones cv then
          match s.h.get b with
          | some (.c l) => match put l o cv with
            | some l' => [.v undefA f (setH s b (.c l'))]
            | none => eBad "st: cells"
          | _ => eBad "st: no row"
        else eBad "st: value"
      | none => eBad "st: value"
    | none => eBad "st: x"
  | _ => eBad "st: a"

def keyPut (c : EC) (k v : AV) (clock : Nat) : List (AV × AV × Nat) → Option (List (AV × AV × Nat) × Nat)
  | [] => isKey c k ([(k, v, clock)], clock + 1)
  | (k', v', b) :: l => match keyEq c k k' with
    | none => none
    | some true => some ((k, v, b) :: l, clock)
    | some false => match keyPut c k v clock l with
      | none => none
      | some (r, n) => some ((k', v', b) :: r, n)

def eMu (c : EC) (m k x : AOpd) (_e : Ev) (scr : List AV) (f : Fr) (s : St) : List EOut :=
  match opd scr f.env m with
  | some (.m a) => match opd scr f.env k with
    | some kv => match opd scr f.env x with
      | some v => match s.h.get a with
        | some (.m es clock) => match keyPut c kv v clock es with
          | some (es', n) => [.v undefA f (setH s a (.m es' n))]
          | none => eBad "mu: key"
        | _ => eBad "mu: no map"
      | none => eBad "mu: x"
    | none => eBad "mu: k"
  | _ => eBad "mu: m"

def keyDel (c : EC) (k : AV) : List (AV × AV × Nat) → Option (List (AV × AV × Nat))
  | [] => isKey c k []
  | (k', v', b) :: l => match keyEq c k k' with
    | none => none
    | some true => some l
    | some false => match keyDel c k l with
      | none => none
      | some r => some ((k', v', b) :: r)

def eDel (c : EC) (m k : AOpd) (_e : Ev) (scr : List AV) (f : Fr) (s : St) : List EOut :=
  match opd scr f.env m with
  | some (.m a) => match opd scr f.env k with
    | some kv => match s.h.get a with
      | some (.m es clock) => match keyDel c kv es with
        | some es' => [.v undefA f (setH s a (.m es' clock))]
        | none => eBad "del: key"
      | _ => eBad "del: no map"
    | none => eBad "del: k"
  | _ => eBad "del: m"

def eRngM (x : AOpd) (_e : Ev) (scr : List AV) (f : Fr) (s : St) : List EOut :=
  match opd scr f.env x with
  | some .m0 => [.v (.p s.nx 0) f (newH s (.mi none 0 [] 0))]
  | some (.m a) => match s.get a with
    | some (.m _ clock) => [.v (.p s.nx 0) f (newH s (.mi (some a) clock [] clock))]
    | _ => eBad "rngM: no map"
  | _ => eBad "rngM"

def natIn (n : Nat) : List Nat → Bool
  | [] => false
  | x :: l => x == n || natIn n l

def allLt (n : Nat) : List (AV × AV × Nat) → Bool
  | [] => true
  | (_, _, b) :: l => b < n && allLt n l

/-- the entries that have not come -/
def left (seen : List Nat) : List (AV × AV × Nat) → List (AV × AV × Nat)
  | [] => []
  | (k, v, b) :: l => if natIn b seen then left seen l else (k, v, b) :: left seen l

def nextOuts (a m : Bn) (since clock : Nat) (seen : List Nat) (f : Fr) (s : St) : List (AV × AV × Nat) → List EOut
  | [] => []
  | (k, v, b) :: l => .v (.tu [.b true, k, v]) f (setH s a (.mi (some m) since (seen ++ [b]) clock)) :: nextOuts a m since clock seen f s l

def eNx (str : Bool) (it : AOpd) (_e : Ev) (scr : List AV) (f : Fr) (s : St) : List EOut :=
  match opd scr f.env it with
  | some (.p a 0) => match s.h.get a with
    | some (.ti l pos) => if str then match nth l pos with
        | some c => if c < 128 then [.v (.tu [.b true, .i .i64 (.ofNat pos), .i .i32 (.ofNat c)]) f (setH s a (.ti l (pos + 1)))] else eBad "nx: not ascii"
        | none => [.v (.tu [.b false]) f s]
      else eBad "nx: kind"
    | some (.mi none _ _ _) => if str then eBad "nx: kind" else [.v (.tu [.b false]) f s]
    | some (.mi (some m) since seen last) => if str then eBad "nx: kind" else match s.get m with
      | some (.m es clock) => if clock == since && last == since && allLt since es then
          match left seen es with
          | [] => [.v (.tu [.b false]) f s]
          | ls => nextOuts a m since clock seen f s ls
        else eBad "nx: the map has grown"
      | _ => eBad "nx: no map"
    | _ => eBad "nx: no iterator"
  | _ => eBad "nx"

/-- the first cells of a slice -/
def srcCells (h : St) (sz : Nat) : AV → Option (List AV)
  | .sn => some []
  | .se => some []
  | .sl a o n _ _ z => if z == sz then match rowOf h a with
    | some l => cut l o (n * sz)
    | none => none else none
  | _ => none

def lenA : AV → Option Nat
  | .sn => some 0
  | .se => some 0
  | .sl _ _ n _ _ _ => some n
  | _ => none

def appA (sz : Nat) (sv : AV) (n : Nat) (new : List AV) (f : Fr) (s : St) : List EOut :=
  match sv with
  | .sn => match n with
    | 0 => [.v .sn f s]
    | _ => if n ≤ 65536 then [.v (.sl s.nx 0 n n false sz) f (newH s (.c new))] else eBad "app: long"
  | .sl a o k c ex z =>
    if z == sz && k + n ≤ 65536 then
      if k + n ≤ c then
        match n with
        | 0 => [.v sv f s]
        | _ => if ones new then match s.h.get a with
          | some (.c l) => match put l (o + k * sz) new with
            | some l' => [.v (.sl a o (k + n) c ex z) f (setH s a (.c l'))]
            | none => eBad "app: put"
          | _ => eBad "app: no row" else eBad "app: cells"
      else if ex then match rowOf s a with
        | some l => match cut l o (k * sz) with
          | some old => [.v (.sl s.nx 0 (k + n) (k + n) false z) f (newH s (.c (old ++ new)))]
          | none => eBad "app: cut"
        | none => eBad "app: no row"
      else if o == 0 && ones new then match s.h.get a with
        | some (.c l) => match cut l 0 (k * sz) with
          | some old => [.v (.sl s.nx 0 (k + n) (k + n) false z) f (newH (killH s a) (.c (old ++ new)))]
          | none => eBad "app: cut"
        | _ => eBad "app: no row"
      else eBad "app: off"
    else eBad "app: size"
  | _ => eBad "app"

def eApp (sz : Nat) (sv x : AOpd) (_e : Ev) (scr : List AV) (f : Fr) (s : St) : List EOut :=
  match opd scr f.env sv with
  | some v => match opd scr f.env x with
    | some y => match srcCells s sz y with
      | some new => match lenA y with
        | some n => appA sz v n new f s
        | none => eBad "app: len"
      | none => eBad "app: src"
    | none => eBad "app: x"
  | none => eBad "app: s"

def byteCells : List Nat → List AV
  | [] => []
  | c :: l => .i .u8 (.ofNat c) :: byteCells l

def eAppT (sv x : AOpd) (_e : Ev) (scr : List AV) (f : Fr) (s : St) : List EOut :=
  match opd scr f.env sv with
  | some v => match opd scr f.env x with
    | some (.s t) => appA 1 v t.length (byteCells t) f s
    | _ => eBad "appT: x"
  | none => eBad "appT: s"

def eClone (x : AOpd) (_e : Ev) (scr : List AV) (f : Fr) (s : St) : List EOut :=
  match opd scr f.env x with
  | some (.it t (.m a)) => match s.get a with
    | some (.m es c) => [.v (.it t (.m s.nx)) f (newH s (.m es c))]
    | _ => eBad "clone: no map"
  | _ => eBad "clone"

def ofC (f : Fr) : List COut → List EOut
  | [] => []
  | .r v s _ :: l => .v v f s :: ofC f l
  | .p v s _ :: l => .p v f s :: ofC f l
  | .x w :: l => .x w :: ofC f l

def callV (e : Ev) (fv : AV) (args : List AV) (s : St) : List COut :=
  match fv with
  | .f fn first caps => e.cl fn (first ++ args ++ caps) none s
  | .yl l => e.yl l args s
  | _ => [.x "call of what"]

/-- a function is ranged over -/
def callR (e : Ev) (fv : AV) (l : Bn) (s : St) : List COut :=
  match fv with
  | .f fn first caps => e.cl fn (first ++ [.yl l] ++ caps) none s
  | _ => [.x "range over what"]

def eCallF (fn : Bn) (args : List AOpd) (e : Ev) (scr : List AV) (f : Fr) (s : St) : List EOut :=
  match opds scr f.env args with
  | some vs => ofC f (e.cl fn vs none s)
  | none => eBad "callF: args"

def eCallV (g : AOpd) (args : List AOpd) (e : Ev) (scr : List AV) (f : Fr) (s : St) : List EOut :=
  match opd scr f.env g with
  | some gv => match opds scr f.env args with
    | some vs => ofC f (callV e gv vs s)
    | none => eBad "callV: args"
  | none => eBad "callV: f"

def findT (t : Nat) : List (Nat × Bn) → Option Bn
  | [] => none
  | (u, g) :: l => if u == t then some g else findT t l

def eInv (tbl : List (Nat × Bn)) (r : AOpd) (args : List AOpd) (e : Ev) (scr : List AV) (f : Fr) (s : St) : List EOut :=
  match opd scr f.env r with
  | some (.it t v) => match findT t tbl with
    | some g => match opds scr f.env args with
      | some vs => ofC f (e.cl g (v :: vs) none s)
      | none => eBad "inv: args"
    | none => eBad "inv: type"
  | _ => eBad "inv"

def eDfr (g : AOpd) (args : List AOpd) (_e : Ev) (scr : List AV) (f : Fr) (s : St) : List EOut :=
  match opd scr f.env g with
  | some (.f fn first caps) => match opds scr f.env args with
    | some vs => match f.ro with
      | none => [.v undefA { f with df := .call fn (first ++ vs ++ caps) :: f.df } s]
      | some _ => eBad "dfr: in a round"
    | none => eBad "dfr: args"
  | _ => eBad "dfr"

def eRcv (_e : Ev) (_scr : List AV) (f : Fr) (s : St) : List EOut :=
  match f.ro with
  | some _ => eBad "rcv: in a round"
  | none => match f.pn with
    | some v => [.v v { f with pn := none, rc := true } s]
    | none => [.v .i0 f s]

def ePan (x : AOpd) (_e : Ev) (scr : List AV) (f : Fr) (s : St) : List EOut :=
  match opd scr f.env x with
  | some (.it t v) => [.p (.it t v) f s]
  | _ => eBad "pan"

def effOp : EK → Ev → List AV → Fr → St → List EOut
  | .st sz a x => eSt sz a x
  | .mu c m k x => eMu c m k x
  | .del c m k => eDel c m k
  | .rngM x => eRngM x
  | .nx b it => eNx b it
  | .app sz v x => eApp sz v x
  | .appT v x => eAppT v x
  | .clone x => eClone x
  | .callF fn as => eCallF fn as
  | .callV g as => eCallV g as
  | .inv t r as => eInv t r as
  | .dfr g as => eDfr g as
  | .rcv => eRcv
  | .pan x => ePan x

def keep (f : Fr) (d : Option Bn) (v : AV) : Fr :=
  match d with
  | none => f
  | some b => { f with env := f.env.set (some v) b }

/-- is the operation wanted? -/
def want (g : Option (AOpd × Bool)) (scr : List AV) (env : Tr AV) : Option Bool :=
  match g with
  | none => some true
  | some (x, t) => match opd scr env x with
    | some (.b y) => some (y == t)
    | some (.tu _) => some false
    | _ => none

def bindE (K : AV → Fr → St → List Out) : List EOut → List Out
  | [] => []
  | [.v v f s] => K v f s
  | .v v f s :: l => K v f s ++ bindE K l
  | .p v f s :: l => .p v f s :: bindE K l
  | .x w :: l => .x w :: bindE K l

def runOps (e : Ev) : List AP → List AV → Fr → St → List Out
  | [], _, f, s => [.n f s]
  | a :: l, scr, f, s =>
    match want a.g scr f.env with
    | none => [.x "guard"]
    | some false => runOps e l (undefA :: scr) (keep f a.d undefA) s
    | some true => match a.k with
      | .p k => match pureOp k scr f.env with
        | some v => runOps e l (v :: scr) (keep f a.d v) s
        | none => [.x "pure"]
      | .r k => match readOp k s scr f.env with
        | some v => runOps e l (v :: scr) (keep f a.d v) s
        | none => [.x "read"]
      | .m k => match makeOp k s.nx scr f.env with
        | some (v, o) => runOps e l (v :: scr) (keep f a.d v) (newH s o)
        | none => [.x "make"]
      | .e k => bindE (fun v f' s' => runOps e l (v :: scr) (keep f' a.d v) s') (effOp k e scr f s)

/-- the blocks that wait are laid: those of the named operations -/
def lay (ms : List Nat) (h : Tr AO) : List (Nat × Bn × AO) → Tr AO × List (Nat × Bn × AO)
  | [] => (h, [])
  | (i, a, o) :: l =>
    if natIn i ms then lay ms (h.set (some o) a) l
    else let r := lay ms h l; (r.1, (i, a, o) :: r.2)

def layAll (h : Tr AO) : List (Nat × Bn × AO) → Tr AO
  | [] => h
  | (_, a, o) :: l => layAll (h.set (some o) a) l

def noPan : List EOut → Bool
  | [] => true
  | .p .. :: _ => false
  | _ :: l => noPan l

def kp (ke : Tr AV) (d : Option Bn) (v : AV) : Tr AV :=
  match d with
  | none => ke
  | some b => ke.set (some v) b

/-- env: the temporaries as they stood ahead of the region; ke: as they will stand behind it -/
def runDr (e : Ev) : List DE → List (Nat × Bn × AO) → List AV → Tr AV → Fr → St → List Out
  | [], pd, _, ke, f, s => [.n { f with env := ke } ⟨layAll s.h pd, s.lo, s.nx⟩]
  | .rc n g k :: l, pd, scr, ke, f, s =>
    match want g scr f.env with
    | none => [.x "guard"]
    | some false => match nth scr n with
      | some u => if u.beq undefA then runDr e l pd scr ke f s else [.x "rc: guard"]
      | none => [.x "rc"]
    | some true => match readOp k s scr f.env with
      | some v => match nth scr n with
        | some u => if v.beq u then runDr e l pd scr ke f s else [.x "a read that changes"]
        | none => [.x "rc"]
      | none => [.x "rc: read"]
  | .p _ a :: l, pd, scr, ke, f, s =>
    match want a.g scr f.env with
    | none => [.x "guard"]
    | some false => runDr e l pd (undefA :: scr) (kp ke a.d undefA) f s
    | some true => match a.k with
      | .p k => match pureOp k scr f.env with
        | some v => runDr e l pd (v :: scr) (kp ke a.d v) f s
        | none => [.x "pure"]
      | .r k => match readOp k s scr f.env with
        | some v => runDr e l pd (v :: scr) (kp ke a.d v) f s
        | none => [.x "read"]
      | _ => [.x "kind"]
  | .m i a :: l, pd, scr, ke, f, s =>
    match want a.g scr f.env with
    | none => [.x "guard"]
    | some false => runDr e l pd (undefA :: scr) (kp ke a.d undefA) f s
    | some true => match a.k with
      | .m k => match makeOp k s.nx scr f.env with
        | some (v, o) => runDr e l ((i, s.nx, o) :: pd) (v :: scr) (kp ke a.d v) f ⟨s.h, s.lo, s.nx.succ⟩
        | none => [.x "make"]
      | _ => [.x "kind"]
  | .e _ ms a :: l, pd, scr, ke, f, s =>
    match want a.g scr f.env with
    | none => [.x "guard"]
    | some false => runDr e l pd (undefA :: scr) (kp ke a.d undefA) f s
    | some true => match a.k with
      | .e k =>
        let r := lay ms s.h pd
        let outs := effOp k e scr f ⟨r.1, s.lo, s.nx⟩
        if noPan outs then bindE (fun v f' s' => runDr e l r.2 (v :: scr) (kp ke a.d v) { f' with env := f.env } s') outs
        else [.x "a panic where the order is open"]
      | _ => [.x "kind"]

def bindO (K : Out → List Out) : List Out → List Out
  | [] => []
  | [o] => K o
  | o :: l => K o ++ bindO K l

def findLbl : AC → Nat → Option AC
  | .sq a b, l => match findLbl a l with
    | some r => some (.sq r b)
    | none => findLbl b l
  | .lb l', l => if l' == l then some .sk else none
  | _, _ => none

def endLoop (l : Bn) (o : COut) (f : Fr) : List Out :=
  match o with
  | .x w => [.x w]
  | .p v s _ => [.p v f s]
  | .r _ s _ => match s.h.get l with
    | some (.lp st pend _ _ _ _ _) => match st with
      | .busy => [.x "a loop that is busy"]
      | _ => match pend with
        | none => [.n f (killH s l)]
        | some j => [.j j f (killH s l)]
    | _ => [.x "no loop"]

def bindC (K : COut → List Out) : List COut → List Out
  | [] => []
  | [o] => K o
  | o :: l => K o ++ bindC K l

def kSq (e : Ev) (b : AC) : Out → List Out
  | .n f s => e.cd b f s
  | o => [o]
def kBl (id : Nat) : Out → List Out
  | .j (.ex i) f s => if i == id then [.n f s] else [.j (.ex i) f s]
  | o => [o]
def kSc (e : Ev) (body : AC) : Out → List Out
  | .j (.gt l) f s => match findLbl body l with
    | some r => e.cd (.sg body r) f s
    | none => [.j (.gt l) f s]
  | o => [o]

def runCode (e : Ev) (c : AC) (f : Fr) (s : St) : List Out :=
  match c with
  | .sk => [.n f s]
  | .lb _ => [.n f s]
  | .rg ops => runOps e ops [] f s
  | .dr ops => runDr e ops [] [] f.env f s
  | .sq a b => bindO (kSq e b) (e.cd a f s)
  | .cd c a b => match opd [] f.env c with
    | some (.b true) => e.cd a f s
    | some (.b false) => e.cd b f s
    | _ => [.x "cond"]
  | .bl id a => bindO (kBl id) (e.cd a f s)
  | .lp a => bindO (kSq e (.lp a)) (e.cd a f s)
  | .ex id => [.j (.ex id) f s]
  | .gt l => [.j (.gt l) f s]
  | .rt => [.j .rt f s]
  | .sc a => bindO (kSc e a) (e.cd a f s)
  | .sg a b => bindO (kSc e a) (e.cd b f s)
  | .rf g params asg body => match opd [] f.env g with
    | some gv =>
      match f.ro with
      | none =>
        let d := s.nx
        let s1 := newH s .df
        let l := s1.nx
        let s2 := newH s1 (.lp .ready none f.env params asg body d)
        let f1 := { f with df := .coll d :: f.df }
        bindC (fun o => endLoop l o f1) (callR e gv l s2)
      | some (l0, _) => match s.get l0 with
        | some (.lp _ _ _ _ _ _ d) =>
          let l := s.nx
          let s2 := newH s (.lp .ready none f.env params asg body d)
          bindC (fun o => endLoop l o f) (callR e gv l s2)
        | _ => [.x "rf: no loop around"]
    | none => [.x "rf"]

-- a round
def setParams : List Bn → List AV → Tr AV → Option (Tr AV)
  | [], [], t => some t
  | b :: bs, v :: vs, t => setParams bs vs (t.set (some v) b)
  | _, _, _ => none

def endRound (l : Bn) (o : Out) : List COut :=
  match o with
  | .x w => [.x w]
  | .p v f s => match f.df with
    | [] => [.p v s false]
    | _ => [.x "a round's deferred calls"]
  | .n _ s => match s.h.get l with
    | some (.lp _ _ env ps a b d) => [.r (.b true) (setH s l (.lp .ready none env ps a b d)) false]
    | _ => [.x "no loop"]
  | .j j _ s => match s.h.get l with
    | some (.lp _ _ env ps a b d) => [.r (.b false) (setH s l (.lp .done (some j) env ps a b d)) false]
    | _ => [.x "no loop"]

def mapC (K : Out → List COut) : List Out → List COut
  | [] => []
  | [o] => K o
  | o :: l => K o ++ mapC K l

def kRound (e : Ev) (l : Bn) (body : AC) : Out → List Out
  | .n f s => match s.h.get l with
    | some (.lp .ready pe env ps a b d) => e.cd body f (setH s l (.lp .busy pe env ps a b d))
    | _ => [.x "a round of a loop that is not ready"]
  | o => [o]

def runYield (e : Ev) (l : Bn) (args : List AV) (s : St) : List COut :=
  match s.h.get l with
  | some (.lp _ _ env ps a b d) => match setParams ps args env with
    | some env' =>
      mapC (endRound l) (bindO (kRound e l b) (e.cd a ⟨env', [], none, false, some (l, d)⟩ s))
    | none => [.x "yield: arguments"]
  | _ => [.x "yield: no loop"]

-- a call
inductive Md where
  | ret
  | pan (v : AV)

def initEnv : List (Option Bn) → List AV → Tr AV → Option (Tr AV)
  | [], [], t => some t
  | none :: bs, _ :: vs, t => initEnv bs vs t
  | some b :: bs, v :: vs, t => initEnv bs vs (t.set (some v) b)
  | _, _, _ => none

def resA (env : Tr AV) (h : St) : ARes → Option AV
  | .t b => env.get b
  | .c b sz => match env.get b with
    | some (.p a o) => match rowOf h a with
      | some l => ofCells sz l o
      | none => none
    | _ => none
def ressA (env : Tr AV) (h : St) : List ARes → Option (List AV)
  | [] => some []
  | r :: l => match resA env h r with
    | none => none
    | some v => match ressA env h l with
      | none => none
      | some vs => some (v :: vs)
def tupA : List AV → AV
  | [v] => v
  | vs => .tu vs

def bindCC (K : COut → List COut) : List COut → List COut
  | [] => []
  | [o] => K o
  | o :: l => K o ++ bindCC K l

def unw (e : Ev) (res : List ARes) (env : Tr AV) (rc : Bool) : List AD → Md → St → List COut
  | [], .ret, s => match ressA env s res with
    | some vs => [.r (tupA vs) s rc]
    | none => [.x "results"]
  | [], .pan v, s => [.p v s rc]
  | .coll a :: l, m, s => match s.h.get a with
    | some .df => unw e res env rc l m (killH s a)
    | _ => [.x "collected"]
  | .call fn args :: l, m, s =>
    bindCC (fun o => match o with
      | .r _ s' rc' => unw e res env rc l (if rc' then .ret else m) s'
      | .p _ _ _ => [.x "a deferred call panics"]
      | .x w => [.x w]) (e.cl fn args (match m with | .ret => none | .pan v => some v) s)

def kEnd (e : Ev) (res : List ARes) : Out → List COut
  | .x w => [.x w]
  | .n f s => unw e res f.env f.rc f.df .ret s
  | .j .rt f s => unw e res f.env f.rc f.df .ret s
  | .j _ _ _ => [.x "a jump out of a function"]
  | .p v f s => unw e res f.env f.rc f.df (.pan v) s

def runFn (e : Ev) (fn : AF) (args : List AV) (pn : Option AV) (s : St) : List COut :=
  match initEnv fn.params args .lf with
  | some env => mapC (kEnd e fn.res) (e.cd fn.code ⟨env, [], pn, false, none⟩ s)
  | none => [.x "arguments"]


-- several outcomes are made one
mutual
def renV (ren : Tr Bn) (lo : List (Tr AO)) : AV → Option AV
  | .p a o => (renI ren lo a).map (.p · o)
  | .sl a o n c x z => (renI ren lo a).map (.sl · o n c x z)
  | .m a => (renI ren lo a).map .m
  | .f g x y => match renVs ren lo x with
    | none => none
    | some x' => match renVs ren lo y with
      | none => none
      | some y' => some (.f g x' y')
  | .yl _ => none
  | .q _ => none
  | .it t v => match renV ren lo v with
    | none => none
    | some v' => some (.it t v')
  | .ag l => match renVs ren lo l with
    | none => none
    | some l' => some (.ag l')
  | .tu l => match renVs ren lo l with
    | none => none
    | some l' => some (.tu l')
  | v => some v
def renVs (ren : Tr Bn) (lo : List (Tr AO)) : List AV → Option (List AV)
  | [] => some []
  | v :: l => match renV ren lo v with
    | none => none
    | some v' => match renVs ren lo l with
      | none => none
      | some l' => some (v' :: l')
def renI (ren : Tr Bn) (lo : List (Tr AO)) (a : Bn) : Option Bn :=
  match ren.get a with
  | some b => some b
  | none => match lows lo a with
    | some _ => some a
    | none => none
end
def renEs (ren : Tr Bn) (lo : List (Tr AO)) : List (AV × AV × Nat) → Option (List (AV × AV × Nat))
  | [] => some []
  | (k, v, b) :: l => match renV ren lo k with
    | none => none
    | some k' => match renV ren lo v with
      | none => none
      | some v' => match renEs ren lo l with
        | none => none
        | some l' => some ((k', v', b) :: l')
def renO (ren : Tr Bn) (lo : List (Tr AO)) : AO → Option AO
  | .c l => (renVs ren lo l).map .c
  | .m es c => (renEs ren lo es).map (.m · c)
  | _ => none
mutual
def idsV : AV → List Bn
  | .p a _ => [a]
  | .sl a _ _ _ _ _ => [a]
  | .m a => [a]
  | .f _ x y => idsVs x ++ idsVs y
  | .it _ v => idsV v
  | .ag l => idsVs l
  | .tu l => idsVs l
  | _ => []
def idsVs : List AV → List Bn
  | [] => []
  | v :: l => idsV v ++ idsVs l
end
def idsO : AO → List Bn
  | .c l => idsVs l
  | .m es _ => es.flatMap fun (k, v, _) => idsV k ++ idsV v
  | _ => []
/-- all blocks that are reached from some: a renaming, and the blocks in order, the last one first -/
def reach (h : Tr AO) : Nat → List Bn → Tr Bn → List (Bn × Bn) → Bn → Tr Bn × List (Bn × Bn) × Bn
  | 0, _, ren, out, nx => (ren, out, nx)
  | _, [], ren, out, nx => (ren, out, nx)
  | n + 1, a :: l, ren, out, nx =>
    match ren.get a with
    | some _ => reach h n l ren out nx
    | none => match h.get a with
      | none => reach h n l ren out nx
      | some o => reach h n (idsO o ++ l) (ren.set (some nx) a) ((a, nx) :: out) nx.succ
def renBs (ren : Tr Bn) (lo : List (Tr AO)) (h : Tr AO) : List (Bn × Bn) → Option (List (Bn × AO))
  | [] => some []
  | (a, b) :: l => match h.get a with
    | none => none
    | some o => match renO ren lo o with
      | none => none
      | some o' => match renBs ren lo h l with
        | none => none
        | some r => some ((b, o') :: r)
def canon (lo : List (Tr AO)) (nx : Bn) (v : AV) (s : St) : Option (AV × List (Bn × AO) × Bn) :=
  let r := reach s.h 10000 (idsV v) .lf [] nx
  match renV r.1 lo v with
  | none => none
  | some v' => match renBs r.1 lo s.h r.2.1 with
    | none => none
    | some bs => some (v', bs, r.2.2)
def esBeq : List (AV × AV × Nat) → List (AV × AV × Nat) → Bool
  | [], [] => true
  | (k, v, b) :: l, (k', v', b') :: l' => k.beq k' && v.beq v' && b == b' && esBeq l l'
  | _, _ => false
def AO.beq : AO → AO → Bool
  | .c x, .c x' => AV.beqs x x'
  | .m es k, .m es' k' => esBeq es es' && k == k'
  | _, _ => false
def bsBeq : List (Bn × AO) → List (Bn × AO) → Bool
  | [], [] => true
  | (a, o) :: l, (a', o') :: l' => a.beq a' && o.beq o' && bsBeq l l'
  | _, _ => false
def canons (lo : List (Tr AO)) (nx : Bn) (v0 : AV) (b0 : List (Bn × AO)) : List COut → Bool
  | [] => true
  | .r v s false :: l => match canon lo nx v s with
    | some (v', bs, _) => v'.beq v0 && bsBeq bs b0 && canons lo nx v0 b0 l
    | none => false
  | _ => false
def setBs (h : Tr AO) : List (Bn × AO) → Tr AO
  | [] => h
  | (a, o) :: l => setBs (h.set (some o) a) l
def join (s : St) (outs : List COut) : List COut :=
  match outs with
  | .r v s1 false :: l => match canon (s.h :: s.lo) s.nx v s1 with
    | some (v', bs, nx) =>
      if canons (s.h :: s.lo) s.nx v' bs l then [.r v' ⟨setBs s.h bs, s.lo, nx⟩ false] else [.x "join: unlike"]
    | none => [.x "join: canon"]
  | .x w :: _ => [.x w]
  | _ => [.x "join"]

def callFn (tbl : Bn → Option AF) (e : Ev) (g : Bn) (args : List AV) (pn : Option AV) (s : St) : List COut :=
  match tbl g with
  | none => [.x "no such function"]
  | some fn =>
    if fn.join then join s (runFn e fn args pn ⟨.lf, s.h :: s.lo, s.nx⟩) else runFn e fn args pn s

def mkEv (tbl : Bn → Option AF) (e : Ev) : Ev where
  cd := runCode e
  cl := callFn tbl e
  yl := runYield e

def evN (tbl : Bn → Option AF) : Nat → Ev
  | 0 => { cd := fun _ _ _ => [.x "fuel"], cl := fun _ _ _ _ => [.x "fuel"], yl := fun _ _ _ => [.x "fuel"] }
  | n + 1 => mkEv tbl (evN tbl n)

end Go.Ex
/- Does the abstract machine's text say what the model's says? A check, by the kernel. -/
namespace Go.Ex

def Bn.val : Bn → Nat
  | .e => 0
  | .o b => 2 * b.val
  | .i b => 2 * b.val + 1

def Bn.isE : Bn → Bool
  | .e => true
  | _ => false

/-- no nought ahead -/
def Bn.can : Bn → Bool
  | .e => true
  | .o b => !b.isE && b.can
  | .i b => b.can

inductive TD where
  | int (k : IntKind) | bool | str
  | ptr (e : Nat) | sli (e : Nat) | arr (n e : Nat) | map (k e : Nat)
  | st (fs : List (Nat × Nat × Bool))
  | fn | ifc | oth
  deriving Inhabited, DecidableEq

def tdOf : TypeDesc → TD
  | .int k => .int k
  | .bool => .bool
  | .string => .str
  | .pointer e => .ptr e
  | .slice e => .sli e
  | .array n e => .arr n e
  | .map k e => .map k e
  | .struct fs => .st (fs.toList.map fun f => (f.offset, f.type, f.name == "_"))
  | .func _ _ _ => .fn
  | .interface _ => .ifc
  | _ => .oth

structure Row where
  td : TD
  size : Nat
  bytes : Nat
  zero : AV
  deriving Inhabited

def bytesOf (l : List Nat) : ByteArray := ⟨(l.map UInt8.ofNat).toArray⟩

def small : List Nat → Bool
  | [] => true
  | c :: l => Nat.blt c 256 && small l

mutual
/-- is the model's value the abstract one, whatever lies in memory? -/
def constOk : Value → AV → Bool
  | .bool b, .b x => b == x
  | .int k n, .i k' n' => decide (k = k') && decide (n = n')
  | .string s, .s l => decide (s.data.toList = l.map UInt8.ofNat) && small l
  | .pointer a, .p0 => a.isNone
  | .slice a n c, .sn => a.isNone && Nat.beq n 0 && Nat.beq c 0
  | .map a, .m0 => a.isNone
  | .nilFunc, .f0 => true
  | .nilIface, .i0 => true
  | .agg cs, .ag l => constsOk cs.toList l
  | .tuple cs, .tu l => constsOk cs.toList l
  | _, _ => false
def constsOk : List Value → List AV → Bool
  | [], [] => true
  | v :: vs, x :: l => constOk v x && constsOk vs l
  | _, _ => false
end

def rowOk (P : Program) (t : Nat) (r : Row) : Bool :=
  match P.info? t with
  | some i => match P.underlying t with
    | some d => decide (tdOf d = r.td) && i.size == r.size && i.bytes == r.bytes &&
      (match i.zero with | some z => constOk z r.zero | none => false) &&
      (match r.td with | .st _ => !(P.stoodInHeld t) | _ => true)
    | none => false
  | none => false

def Row.agg (r : Row) : Bool :=
  match r.td with
  | .st _ => true
  | .arr _ _ => true
  | _ => false

/-- has the zero value as many cells as the type? -/
def Row.zeroLen (r : Row) : Bool :=
  match cells r.zero with
  | some l => Nat.beq l.length r.size
  | none => false

abbrev Ty := Nat → Option Row

def idx (ctx : List (Option Nat)) (t : Nat) : Option Nat :=
  match ctx with
  | [] => none
  | some u :: l => if Nat.beq u t then some 0 else (idx l t).map (· + 1)
  | none :: l => (idx l t).map (· + 1)

def isNat : Option Nat → Nat → Bool
  | some m, n => Nat.beq m n
  | none, _ => false
def isNone' : Option Nat → Bool
  | none => true
  | _ => false

/-- What a check goes by: the types' rows, the variables of the package level, which temporaries are kept, how many there are. -/
structure Cx where
  ty : Ty
  gl : Nat → Bool
  K : Nat → Bool
  N : Nat

def Cx.opd (X : Cx) (ctx : List (Option Nat)) : Operand → AOpd → Bool
  | .tmp t, .s n => isNat (idx ctx t) n
  | .tmp t, .v b => b.can && Nat.beq b.val t && isNone' (idx ctx t)
  | .const v, .k x => constOk v x
  | .global g, .k (.p b 0) => Nat.beq b.val g && b.can && X.gl g
  | .func f, .k (.f b [] []) => Nat.beq b.val f
  | _, _ => false

def Cx.opds (X : Cx) (ctx : List (Option Nat)) : List Operand → List AOpd → Bool
  | [], [] => true
  | x :: l, y :: l' => X.opd ctx x y && X.opds ctx l l'
  | _, _ => false

def Cx.opt (X : Cx) (ctx : List (Option Nat)) : Option Operand → Option AOpd → Bool
  | none, none => true
  | some x, some y => X.opd ctx x y
  | _, _ => false

def Cx.szOk (X : Cx) (t : Nat) (s : Sz) : Bool :=
  match X.ty t with
  | none => false
  | some r => match s with
    | .one => !r.agg
    | .ag n => r.agg && Nat.beq n r.size

def Cx.sizeIs (X : Cx) (t n : Nat) : Bool :=
  match X.ty t with
  | none => false
  | some r => Nat.beq r.size n

def Cx.tdIs (X : Cx) (t : Nat) (d : TD → Bool) : Bool :=
  match X.ty t with
  | none => false
  | some r => d r.td

def Cx.zeroIs (X : Cx) (t : Nat) (z : AV) : Bool :=
  match X.ty t with
  | none => false
  | some r => r.zero.beq z

def Cx.zeroCs (X : Cx) (t : Nat) (cs : List AV) : Bool :=
  match X.ty t with
  | none => false
  | some r => match cells r.zero with
    | some l => AV.beqs l cs
    | none => false

def fieldsF (lv : Nat → Option (List Lf)) : List (Nat × Nat × Bool) → Nat → Nat → Option (List Lf)
  | [], at_, size => if Nat.beq at_ size then some [] else none
  | (off, t, blank) :: fs, at_, size =>
    if Nat.beq off at_ && !blank then
      match lv t with
      | none => none
      | some l => match fieldsF lv fs (at_ + l.length) size with
        | none => none
        | some r => some (l ++ r)
    else none

/-- the leaves of a type whose values hold no address -/
def leavesOf (ty : Ty) : Nat → Nat → Option (List Lf)
  | 0, _ => none
  | d + 1, t => match ty t with
    | none => none
    | some r => match r.td with
      | .int k => if Nat.beq r.size 1 then some [.i k] else none
      | .bool => if Nat.beq r.size 1 then some [.b] else none
      | .str => if Nat.beq r.size 1 then some [.s] else none
      | .st fs => fieldsF (leavesOf ty d) fs 0 r.size
      | .arr n e => match ty e with
        | none => none
        | some re => if Nat.beq r.size (n * re.size) then match leavesOf ty d e with
          | none => none
          | some l => if Nat.beq l.length re.size then some (rep l n) else none else none
      | _ => none

def Lf.beq : Lf → Lf → Bool
  | .i k, .i k' => decide (k = k')
  | .b, .b => true
  | .s, .s => true
  | _, _ => false
def lfsBeq : List Lf → List Lf → Bool
  | [], [] => true
  | x :: l, y :: l' => x.beq y && lfsBeq l l'
  | _, _ => false

def Cx.leaves (X : Cx) (t : Nat) (l : List Lf) : Bool :=
  match leavesOf X.ty 8 t with
  | none => false
  | some l' => lfsBeq l l'

/-- the leaves of a map's keys -/
def Cx.keys (X : Cx) (t : Nat) (c : EC) : Bool :=
  match c with
  | .ag l => X.leaves t l && (match X.ty t with
    | some r => !r.agg || !(Nat.beq l.length 1)
    | none => false)
  | _ => false

def isEq : BinOp → Bool
  | .eql => true
  | .neq => true
  | _ => false

def Cx.ecOk (X : Cx) (P : Program) (op : BinOp) (t : Nat) (c : EC) : Bool :=
  match c with
  | .no => true
  | .b => X.tdIs t fun d => decide (d = .bool)
  | .s => true
  | .p => X.tdIs t fun d => match d with | .ptr _ => true | _ => false
  | .sl => X.tdIs t fun d => match d with | .sli _ => true | _ => false
  | .m => X.tdIs t fun d => match d with | .map _ _ => true | _ => false
  | .f => X.tdIs t fun d => match d with | .fn => true | _ => false
  | .it => true
  | .ag l => isEq op && X.leaves t l && !(P.eqGuardType P.depth t) && (X.tdIs t fun d => match d with | .st _ => true | .arr _ _ => true | _ => false)

def Cx.parts (X : Cx) (ctx : List (Option Nat)) (place : Nat → Option (Nat × Nat)) : List (Nat × Operand) → List (Nat × Nat × AOpd) → Bool
  | [], [] => true
  | (i, x) :: l, (o, n, y) :: l' => (match place i with
    | some (o', n') => Nat.beq o o' && Nat.beq n n'
    | none => false) && X.opd ctx x y && X.parts ctx place l l'
  | _, _ => false

def nthF (fs : List (Nat × Nat × Bool)) (i : Nat) : Option (Nat × Nat × Bool) := nth fs i

def Cx.fieldPlace (X : Cx) (fs : List (Nat × Nat × Bool)) (i : Nat) : Option (Nat × Nat) :=
  match nth fs i with
  | none => none
  | some (off, t, _) => match X.ty t with
    | none => none
    | some r => some (off, r.size)

/-- each field's type has a row -/
def Cx.fieldRows (X : Cx) : List (Nat × Nat × Bool) → Bool
  | [] => true
  | (_, t, _) :: l => (match X.ty t with | some _ => true | none => false) && X.fieldRows l

def isConstInt : Option Operand → Bool
  | none => true
  | some (.const (.int _ _)) => true
  | _ => false

def Cx.pk (X : Cx) (P : Program) (ctx : List (Option Nat)) : Op → PK → Bool
  | .move x, .mv y => X.opd ctx x y
  | .assign x, .mv y => X.opd ctx x y
  | .pick c a b, .pick c' a' b' => X.opd ctx c c' && X.opd ctx a a' && X.opd ctx b b'
  | .build t ps, .build z ps' => X.zeroCs t z &&
      (match X.ty t with
       | none => false
       | some r => match r.td with
         | .st fs => X.fieldRows fs && X.parts ctx (X.fieldPlace fs) ps.toList ps'
         | .arr _ e => match X.ty e with
           | none => false
           | some re => X.parts ctx (fun i => some (i * re.size, re.size)) ps.toList ps'
         | _ => false)
  | .nilCheck x, .nc y => X.opd ctx x y
  | .binOp op t x y _, .bin op' c x' y' => decide (op = op') && X.ecOk P op t c && X.opd ctx x x' && X.opd ctx y y'
  | .unOp op _ x, .un op' x' => decide (op = op') && X.opd ctx x x'
  | .convert s t x, .cvI k y => (X.tdIs s fun d => match d with | .int _ => true | _ => false) && (X.tdIs t fun d => decide (d = .int k)) && X.opd ctx x y
  | .convert s t x, .mv y => (X.tdIs s fun d => decide (d = .str)) && (X.tdIs t fun d => decide (d = .str)) && X.opd ctx x y && (match y with | .k (.s _) => true | _ => false)
  | .makeInterface t x, .mkI t' y => Nat.beq t t' && (X.tdIs t fun d => match d with | .ifc => false | _ => true) && X.opd ctx x y
  | .makeFunc (.func f) a c, .mkF g a' c' => Nat.beq g.val f && X.opds ctx a.toList a' && X.opds ctx c.toList c'
  | .slice t x l h m, .slS sz y l' h' m' => (match X.ty t with
      | none => false
      | some r => match r.td with
        | .sli e => X.sizeIs e sz
        | _ => false) && X.opd ctx x y && X.opt ctx l l' && X.opt ctx h h' && X.opt ctx m m'
  | .slice t x l h none, .slT y l' h' => (X.tdIs t fun d => decide (d = .str)) && X.opd ctx x y && X.opt ctx l l' && X.opt ctx h h'
  | .fieldAddr s x i, .fa off y => (match X.ty s with
      | none => false
      | some r => match r.td with
        | .st fs => match nth fs i with
          | some (o, t, _) => Nat.beq o off && (match X.ty t with | some rt => Nat.blt 0 rt.size | none => false)
          | none => false
        | _ => false) && X.opd ctx x y
  | .field s x i, .fld off sz y => (match X.ty s with
      | none => false
      | some r => match r.td with
        | .st fs => match nth fs i with
          | some (o, t, _) => Nat.beq o off && X.szOk t sz
          | none => false
        | _ => false) && X.opd ctx x y
  | .indexAddr t x i, .iaS sz y j => (match X.ty t with
      | none => false
      | some r => match r.td with
        | .sli e => X.sizeIs e sz
        | _ => false) && X.opd ctx x y && X.opd ctx i j
  | .indexAddr t x i, .iaA sz n y j => (match X.ty t with
      | none => false
      | some r => match r.td with
        | .arr m e => Nat.beq m n && X.sizeIs e sz
        | _ => false) && X.opd ctx x y && X.opd ctx i j
  | .index t x i, .ixA sz n y j => (match X.ty t with
      | none => false
      | some r => match r.td with
        | .arr m e => Nat.beq m n && X.szOk e sz && X.sizeIs e (match sz with | .one => 1 | .ag n => n)
        | _ => false) && X.opd ctx x y && X.opd ctx i j
  | .index t x i, .ixT y j => (X.tdIs t fun d => decide (d = .str)) && X.opd ctx x y && X.opd ctx i j
  | .typeAssert x _ t ok, .ta t' z ok' y => Nat.beq t t' && decide (ok = ok') && X.zeroIs t z && (X.tdIs t fun d => match d with | .ifc => false | _ => true) && X.opd ctx x y
  | .extract x n, .ex m y => Nat.beq n m && X.opd ctx x y
  | .call { callee := .builtin b, args, argTypes }, k => (match b, k with
      | .len, .len y => (match args.toList, argTypes.toList with
        | [x], [t] => X.opd ctx x y && (X.tdIs t fun d => match d with | .sli _ => true | _ => false)
        | _, _ => false)
      | .len, .lenT y => (match args.toList, argTypes.toList with
        | [x], [t] => X.opd ctx x y && (X.tdIs t fun d => decide (d = .str))
        | _, _ => false)
      | .len, .lenA n => (match args.toList, argTypes.toList with
        | [_], [t] => X.tdIs t fun d => match d with | .arr m _ => Nat.beq n m | _ => false
        | _, _ => false)
      | .min, .min ys => X.opds ctx args.toList ys
      | .max, .max ys => X.opds ctx args.toList ys
      | _, _ => false)
  | _, _ => false

def Cx.rk (X : Cx) (ctx : List (Option Nat)) : Op → RK → Bool
  | .load t x, .ld sz y => X.szOk t sz && X.opd ctx x y
  | .lookup t m k ok, .lk c z ok' m' k' => (match X.ty t with
      | none => false
      | some r => match r.td with
        | .map kt e => X.zeroIs e z && X.keys kt c
        | _ => false) && decide (ok = ok') && X.opd ctx m m' && X.opd ctx k k'
  | .convert s t x, .cvBS y => (match X.ty s with
      | none => false
      | some r => match r.td with
        | .sli e => X.tdIs e fun d => decide (d = .int .u8)
        | _ => false) && (X.tdIs t fun d => decide (d = .str)) && X.opd ctx x y
  | .entry x, .en y => X.opd ctx x y
  | .call { callee := .builtin .len, args, argTypes }, .lenM y => (match args.toList, argTypes.toList with
        | [x], [t] => X.opd ctx x y && (X.tdIs t fun d => match d with | .map _ _ => true | _ => false)
        | _, _ => false)
  | _, _ => false

def Cx.mk' (X : Cx) (ctx : List (Option Nat)) : Op → MK → Bool
  | .alloc e, .alloc cs => X.zeroCs e cs
  | .box _ x, .box y => X.opd ctx x y
  | .buildSlice t n ps, .bsl sz m z ps' => Nat.beq n m && (match X.ty t with
      | none => false
      | some r => match r.td with
        | .sli e => X.sizeIs e sz && X.zeroCs e z && Nat.beq z.length sz && Nat.blt 0 sz && Nat.ble (n * sz) 16777216 && X.parts ctx (fun i => some (i * sz, sz)) ps.toList ps'
        | _ => false)
  | .makeMap t r, .mkM => isConstInt r && (X.tdIs t fun d => match d with | .map _ _ => true | _ => false)
  | .makeSlice t l c, .mkS sz z l' c' => (match X.ty t with
      | none => false
      | some r => match r.td with
        | .sli e => X.sizeIs e sz && X.zeroCs e z && Nat.beq z.length sz && Nat.blt 0 sz && (match X.ty e with | some re => Nat.ble re.bytes 1048576 | none => false)
        | _ => false) && X.opd ctx l l' && X.opd ctx c c'
  | .range t x, .rngT y => (X.tdIs t fun d => decide (d = .str)) && X.opd ctx x y
  | _, _ => false

/-- the methods that a table names, of the types that it names -/
def tblOk (P : Program) (name : String) : List (Nat × Bn) → Bool
  | [] => true
  | (t, g) :: l => (match P.info? t with
    | some i => match i.methods.find? (·.name == name) with
      | some m => m.path.isEmpty && (match m.func with
        | some (f, true) => Nat.beq g.val f
        | _ => false) && (match P.underlying t with | some (.pointer _) => true | _ => false)
      | none => false
    | none => false) && tblOk P name l

/-- has a function a body, and a name that the model takes for no other? -/
def bodied (P : Program) (f : Nat) : Bool :=
  match P.funcs[f]? with
  | some fn => fn.body.isSome && !(fn.name == "runtime.NumGoroutine")
  | none => false

def Cx.ek (X : Cx) (P : Program) (ctx : List (Option Nat)) : Op → EK → Bool
  | .store t a x, .st sz b y => X.sizeIs t sz && X.opd ctx a b && X.opd ctx x y
  | .mapUpdate t m k x, .mu c m' k' x' => (match X.ty t with
      | none => false
      | some r => match r.td with
        | .map kt _ => X.keys kt c
        | _ => false) && X.opd ctx m m' && X.opd ctx k k' && X.opd ctx x x'
  | .insert t m k x, .mu c m' k' x' => (match X.ty t with
      | none => false
      | some r => match r.td with
        | .map kt _ => X.keys kt c
        | _ => false) && X.opd ctx m m' && X.opd ctx k k' && X.opd ctx x x'
  | .range t x, .rngM y => (X.tdIs t fun d => match d with | .map _ _ => true | _ => false) && X.opd ctx x y
  | .next x b, .nx b' y => decide (b = b') && X.opd ctx x y
  | .panic x, .pan y => X.opd ctx x y
  | .defer { callee := .value f, args, .. }, .dfr g ys => X.opd ctx f g && X.opds ctx args.toList ys
  | .call { callee := .value (.func f), args, .. }, .callF g ys => Nat.beq g.val f && bodied P f && X.opds ctx args.toList ys
  | .call { callee := .value (.func f), args, .. }, .clone y => (match P.funcs[f]? with
      | some fn => fn.name == "maps.clone" && fn.origin == "" && fn.body.isNone && (match args.toList with | [x] => X.opd ctx x y | _ => false)
      | none => false)
  | .call { callee := .value f, args, .. }, .callV g ys => X.opd ctx f g && X.opds ctx args.toList ys
  | .call { callee := .invoke r name, args, .. }, .inv tbl r' ys => tblOk P name tbl && X.opd ctx r r' && X.opds ctx args.toList ys
  | .call { callee := .builtin b, args, argTypes }, k => (match b, k with
      | .append, .app sz x' y' => (match args.toList, argTypes.toList with
        | [x, y], [t, u] => (match X.ty t with
          | none => false
          | some r => match r.td with
            | .sli e => X.sizeIs e sz && (match X.ty e with | some re => Nat.ble re.bytes 1048576 && Nat.blt 0 re.bytes && Nat.blt 0 re.size && re.zeroLen | none => false)
            | _ => false) && (X.tdIs u fun d => match d with | .sli _ => true | _ => false) && X.opd ctx x x' && X.opd ctx y y'
        | _, _ => false)
      | .append, .appT x' y' => (match args.toList, argTypes.toList with
        | [x, y], [t, u] => (match X.ty t with
          | none => false
          | some r => match r.td with
            | .sli e => X.sizeIs e 1 && (match X.ty e with | some re => Nat.ble re.bytes 1048576 && Nat.blt 0 re.bytes && re.zeroLen | none => false)
            | _ => false) && (X.tdIs u fun d => decide (d = .str)) && X.opd ctx x x' && X.opd ctx y y'
        | _, _ => false)
      | .delete, .del c m' k' => (match args.toList, argTypes.toList with
        | [m, k], t :: _ => (match X.ty t with
          | none => false
          | some r => match r.td with
            | .map kt _ => X.keys kt c
            | _ => false) && X.opd ctx m m' && X.opd ctx k k'
        | _, _ => false)
      | .recover, .rcv => true
      | _, _ => false)
  | _, _ => false

def Cx.ak (X : Cx) (P : Program) (ctx : List (Option Nat)) (o : Op) : AK → Bool
  | .p k => X.pk P ctx o k
  | .r k => X.rk ctx o k
  | .m k => X.mk' ctx o k
  | .e k => X.ek P ctx o k

def dstOf (ops : Array Oper) (j : Nat) : Option Nat :=
  match ops[j]? with
  | some o => o.dst
  | none => none

def Cx.guard (X : Cx) (ctx : List (Option Nat)) (ops : Array Oper) : Option (Nat × Bool) → Option (AOpd × Bool) → Bool
  | none, none => true
  | some (j, b), some (x, b') => (match dstOf ops j with
    | some t => X.opd ctx (.tmp t) x
    | none => false) && decide (b = b')
  | _, _ => false

def Cx.dst (X : Cx) : Option Nat → Option Bn → Bool
  | none, none => true
  | some t, none => Nat.blt t X.N && !(X.K t)
  | some t, some b => Nat.blt t X.N && X.K t && Nat.beq b.val t && b.can
  | none, some _ => false

def Cx.ap (X : Cx) (P : Program) (ctx : List (Option Nat)) (ops : Array Oper) (o : Oper) (a : AP) : Bool :=
  X.ak P ctx o.op a.k && X.guard ctx ops o.guard a.g && X.dst o.dst a.d

def Cx.rg (X : Cx) (P : Program) (ops : Array Oper) : List (Option Nat) → List Oper → List AP → Bool
  | _, [], [] => true
  | ctx, o :: l, a :: l' => X.ap P ctx ops o a && X.rg P ops (o.dst :: ctx) l l'
  | _, _, _ => false

-- a region whose order is open
/-- the temporaries that an operation looks at -/
def looks (ops : Array Oper) (o : Oper) : List Nat :=
  (o.op.operands.toList.filterMap fun | .tmp t => some t | _ => none) ++
  (match o.guard with
   | some (j, _) => (dstOf ops j).toList
   | none => [])

def notIn (d : Option Nat) (l : List Nat) : Bool :=
  match d with
  | none => true
  | some t => !(natIn t l)

def unlike (d d' : Option Nat) : Bool :=
  match d, d' with
  | some t, some u => !(Nat.beq t u)
  | _, _ => true

/-- what is known of an operation that has been met: its number, what it writes, what it looks at, whether it reads memory -/
structure Met where
  i : Nat
  d : Option Nat
  l : List Nat
  r : Bool

/-- are all that were met ahead of this one, or apart from it? (m: the mask of those ahead) -/
def apartAll (m : Nat) (d : Option Nat) (l : List Nat) : List Met → Bool
  | [] => true
  | x :: xs => (m.testBit x.i || (notIn x.d l && unlike x.d d && notIn d x.l)) && apartAll m d l xs

def maskOf (o : Oper) (acc : List Nat) : Nat :=
  o.after.toList.foldl (fun s e => if Region.binds .any e then s ||| 2 ^ e.on ||| (nth acc e.on).getD 0 else s) 0

def befs : List Oper → List Nat → List Nat
  | [], acc => acc
  | o :: l, acc => befs l (acc ++ [maskOf o acc])

def allIn (m : Nat) : List Nat → Bool
  | [] => true
  | i :: l => m.testBit i && allIn m l

def lastE (m : Nat) : Option Nat → Bool
  | none => true
  | some e => m.testBit e

/-- the reads that may come behind an effect, of those that were met -/
def mayFollow (m : Nat) : List Met → List Nat
  | [] => []
  | x :: xs => if x.r && !(m.testBit x.i) then x.i :: mayFollow m xs else mayFollow m xs

def orderOf : List Met → List Nat
  | [] => []
  | x :: xs => x.i :: orderOf xs

def isR : AK → Bool
  | .r _ => true
  | _ => false

def subsetN : List Nat → List Nat → Bool
  | [], _ => true
  | x :: l, l' => natIn x l' && subsetN l l'

/-- what an operation sees of those that were met: what must be ahead of it, and is looked at -/
def ctxL (m : Nat) (L : List Nat) : List Met → List (Option Nat)
  | [] => []
  | x :: xs => (if m.testBit x.i then (match x.d with | some d => if natIn d L then some d else none | none => none) else none) :: ctxL m L xs

def covers (n : Nat) (l : List Nat) : Bool := (List.range n).all fun i => natIn i l

/-- met: those that were met, the last one first; eff: the last effect; need: reads that must be read again now -/
def Cx.dr (X : Cx) (P : Program) (ops : Array Oper) (bs : List Nat) : List DE → List Met → Option Nat → List Nat → Bool
  | [], met, _, need => need.isEmpty && covers ops.size (orderOf met)
  | .rc n g k :: l, met, eff, need => match need with
    | [] => false
    | r :: need' => (match ops[r]?, nth bs r with
      | some o, some m => X.rk (ctxL m (looks ops o) met) o.op k && X.guard (ctxL m (looks ops o) met) ops o.guard g && isNat (nth (orderOf met) n) r
      | _, _ => false) && X.dr P ops bs l met eff need'
  | .p i x :: l, met, eff, need => need.isEmpty && (match ops[i]?, nth bs i with
      | some o, some m => X.ap P (ctxL m (looks ops o) met) ops o x && (match x.k with | .p _ => true | .r _ => true | _ => false) && !(natIn i (orderOf met)) &&
          apartAll m o.dst (looks ops o) met && lastE m eff && X.dr P ops bs l (⟨i, o.dst, looks ops o, isR x.k⟩ :: met) eff []
      | _, _ => false)
  | .m i x :: l, met, eff, need => need.isEmpty && (match ops[i]?, nth bs i with
      | some o, some m => X.ap P (ctxL m (looks ops o) met) ops o x && (match x.k with | .m _ => true | _ => false) && !(natIn i (orderOf met)) &&
          apartAll m o.dst (looks ops o) met && lastE m eff && X.dr P ops bs l (⟨i, o.dst, looks ops o, false⟩ :: met) eff []
      | _, _ => false)
  | .e i ms x :: l, met, eff, need => need.isEmpty && (match ops[i]?, nth bs i with
      | some o, some m => X.ap P (ctxL m (looks ops o) met) ops o x && (match x.k with | .e _ => true | _ => false) && !(natIn i (orderOf met)) &&
          apartAll m o.dst (looks ops o) met && lastE m eff && allIn m ms && X.dr P ops bs l (⟨i, o.dst, looks ops o, false⟩ :: met) (some i) (mayFollow m met)
      | _, _ => false)

def Cx.params (X : Cx) : List Nat → List Bn → Bool
  | [], [] => true
  | t :: l, b :: l' => Nat.beq b.val t && b.can && X.K t && Nat.blt t X.N && X.params l l'
  | _, _ => false

/-- may a region's operations be listed to the end, in each mode? (an order that fits, its operations' numbers) -/
def fits (md : Region.Mode) (ops : Array Oper) : List Nat → List Nat → Bool
  | [], _ => true
  | i :: l, don => (match ops[i]? with
    | some o => o.after.toList.all fun e => !Region.binds md e || natIn e.on don
    | none => false) && fits md ops l (i :: don)
def fitsAll (md : Region.Mode) (ops : Array Oper) (l : List Nat) : Bool := fits md ops l [] && covers ops.size l
def listed (md : Region.Mode) (ops : Array Oper) : Bool := fitsAll md ops (List.range ops.size) || fitsAll md ops (Region.linearise md ops 0)

def Cx.code (X : Cx) (P : Program) : Code → AC → Bool
  | .skip, .sk => true
  | .label l, .lb l' => Nat.beq l l'
  | .region _ ops false, .rg l => X.rg P ops [] ops.toList l
  | .region _ ops true, .dr l => X.dr P ops (befs ops.toList []) l [] none [] && listed .any ops && listed .text ops && listed .gc ops
  | .seq a b, .sq a' b' => X.code P a a' && X.code P b b'
  | .cond c a b, .cd c' a' b' => X.opd [] c c' && X.code P a a' && X.code P b b'
  | .block i a, .bl i' a' => Nat.beq i i' && X.code P a a'
  | .loop a, .lp a' => X.code P a a'
  | .rangeFunc f ps a b, .rf f' ps' a' b' => X.opd [] f f' && X.params ps.toList ps' && X.code P a a' && X.code P b b'
  | .exit i, .ex i' => Nat.beq i i'
  | .scope a, .sc a' => X.code P a a'
  | .goto l, .gt l' => Nat.beq l l'
  | .ret, .rt => true
  | _, _ => false

def Cx.inits (X : Cx) : Nat → List (Option Bn) → Bool
  | _, [] => true
  | j, none :: l => !(X.K j) && X.inits (j + 1) l
  | j, some b :: l => Nat.beq b.val j && b.can && X.K j && X.inits (j + 1) l

def Cx.res (X : Cx) : List ResultVar → List ARes → Bool
  | [], [] => true
  | .tmp t :: l, .t b :: l' => Nat.beq b.val t && b.can && X.res l l'
  | .cell a t :: l, .c b sz :: l' => Nat.beq b.val a && b.can && X.szOk t sz && X.res l l'
  | _, _ => false

def fnOk (P : Program) (ty : Ty) (gl : Nat → Bool) (g : Nat) (a : AF) : Bool :=
  match P.funcs[g]? with
  | none => false
  | some fn =>
    let X : Cx := ⟨ty, gl, fun t => a.kept.testBit t, fn.ntmps⟩
    match fn.body with
    | none => false
    | some c => X.code P c a.code && X.inits 0 a.params && X.res fn.results.toList a.res && !(fn.name == "runtime.NumGoroutine")

end Go.Ex
/- How an abstract value stands to the model's. -/
namespace Go.Ex

/-- Where a block lies: the model's block, from which cell on, and how many cells the model's block has. -/
structure Loc where
  b : Nat
  d : Nat
  t : Nat

abbrev Rho := Bn → Option Loc
def Rho.le (ρ ρ' : Rho) : Prop := ∀ a L, ρ a = some L → ρ' a = some L
theorem Rho.le.refl (ρ : Rho) : ρ.le ρ := fun _ _ h => h
theorem Rho.le.trans {a b c : Rho} (h : a.le b) (k : b.le c) : a.le c := fun x L e => k x L (h x L e)

abbrev Sig := Nat → Option Value

mutual
def VR (σ : Sig) (ρ : Rho) : AV → Value → Prop
  | .b x, v => v = .bool x
  | .i k n, v => v = .int k n
  | .s l, v => v = .string (bytesOf l) ∧ small l = true
  | .p0, v => v = .pointer none
  | .p a o, v => ∃ L, ρ a = some L ∧ v = .pointer (some ⟨L.b, L.d + o, none⟩)
  | .sn, v => v = .slice none 0 0
  | .sl a o n c x z, v => ∃ L k, ρ a = some L ∧ v = .slice (some ⟨L.b, L.d + o, none⟩) n k ∧ n ≤ c ∧ c ≤ k ∧ (x = true → k = c) ∧ L.d + o + k * z ≤ L.t
  | .se, v => ∃ a k, v = .slice (some a) 0 k
  | .m0, v => v = .map none
  | .m a, v => ∃ L, ρ a = some L ∧ v = .map (some L.b)
  | .f g x y, v => ∃ x' y', VRs σ ρ x x' ∧ VRs σ ρ y y' ∧ v = .func (.func g.val) x'.toArray y'.toArray
  | .yl a, v => ∃ L, ρ a = some L ∧ v = .func (.yield L.b) #[] #[]
  | .f0, v => v = .nilFunc
  | .it t x, v => ∃ x', VR σ ρ x x' ∧ v = .iface t x'
  | .i0, v => v = .nilIface
  | .ag l, v => ∃ l', VRs σ ρ l l' ∧ v = .agg l'.toArray
  | .tu l, v => ∃ l', VRs σ ρ l l' ∧ v = .tuple l'.toArray
  | .q n, v => σ n = some v
def VRs (σ : Sig) (ρ : Rho) : List AV → List Value → Prop
  | [], l => l = []
  | x :: l, l' => ∃ y r, l' = y :: r ∧ VR σ ρ x y ∧ VRs σ ρ l r
end

section
variable {σ : Sig} {ρ ρ' : Rho}

mutual
theorem VR.mono (h : ρ.le ρ') : ∀ (x : AV) (v : Value), VR σ ρ x v → VR σ ρ' x v
  | .b _, _, e => by simpa [VR] using e
  | .i _ _, _, e => by simpa [VR] using e
  | .s _, _, e => by simpa [VR] using e
  | .p0, _, e => by simpa [VR] using e
  | .p a o, v, e => by
    simp only [VR] at e ⊢
    obtain ⟨L, h1, h2⟩ := e
    exact ⟨L, h _ _ h1, h2⟩
  | .sn, _, e => by simpa [VR] using e
  | .sl .., v, e => by
    simp only [VR] at e ⊢
    obtain ⟨L, k, h1, h2⟩ := e
    exact ⟨L, k, h _ _ h1, h2⟩
  | .se, _, e => by simpa [VR] using e
  | .m0, _, e => by simpa [VR] using e
  | .m a, v, e => by
    simp only [VR] at e ⊢
    obtain ⟨L, h1, h2⟩ := e
    exact ⟨L, h _ _ h1, h2⟩
  | .f g x y, v, e => by
    simp only [VR] at e ⊢
    obtain ⟨x', y', h1, h2, h3⟩ := e
    exact ⟨x', y', VRs.mono h _ _ h1, VRs.mono h _ _ h2, h3⟩
  | .yl a, v, e => by
    simp only [VR] at e ⊢
    obtain ⟨L, h1, h2⟩ := e
    exact ⟨L, h _ _ h1, h2⟩
  | .f0, _, e => by simpa [VR] using e
  | .it t x, v, e => by
    simp only [VR] at e ⊢
    obtain ⟨x', h1, h2⟩ := e
    exact ⟨x', VR.mono h _ _ h1, h2⟩
  | .i0, _, e => by simpa [VR] using e
  | .ag l, v, e => by
    simp only [VR] at e ⊢
    obtain ⟨l', h1, h2⟩ := e
    exact ⟨l', VRs.mono h _ _ h1, h2⟩
  | .tu l, v, e => by
    simp only [VR] at e ⊢
    obtain ⟨l', h1, h2⟩ := e
    exact ⟨l', VRs.mono h _ _ h1, h2⟩
  | .q n, _, e => by simpa [VR] using e
theorem VRs.mono (h : ρ.le ρ') : ∀ (x : List AV) (v : List Value), VRs σ ρ x v → VRs σ ρ' x v
  | [], _, e => by simpa [VRs] using e
  | x :: l, v, e => by
    simp only [VRs] at e ⊢
    obtain ⟨y, r, h1, h2, h3⟩ := e
    exact ⟨y, r, h1, VR.mono h _ _ h2, VRs.mono h _ _ h3⟩
end

theorem VRs.length : ∀ {l : List AV} {l' : List Value}, VRs σ ρ l l' → l'.length = l.length
  | [], _, e => by simp only [VRs] at e; subst e; rfl
  | x :: l, _, e => by
    simp only [VRs] at e
    obtain ⟨y, r, rfl, _, h⟩ := e
    simp [VRs.length h]

theorem VRs.nth : ∀ {l : List AV} {l' : List Value} {n : Nat} {x : AV}, VRs σ ρ l l' → nth l n = some x → ∃ y, l'[n]? = some y ∧ VR σ ρ x y
  | [], _, n, x, _, hn => by cases n <;> simp [Ex.nth] at hn
  | a :: l, _, n, x, e, hn => by
    simp only [VRs] at e
    obtain ⟨y, r, rfl, h1, h2⟩ := e
    cases n with
    | zero => simp only [Ex.nth, Option.some.injEq] at hn; subst hn; exact ⟨y, by simp, h1⟩
    | succ n =>
      simp only [Ex.nth] at hn
      obtain ⟨z, hz, hv⟩ := VRs.nth h2 hn
      exact ⟨z, by simpa using hz, hv⟩

theorem VRs.append : ∀ {l r : List AV} {l' r' : List Value}, VRs σ ρ l l' → VRs σ ρ r r' → VRs σ ρ (l ++ r) (l' ++ r')
  | [], r, _, r', e, h => by simp only [VRs] at e; subst e; simpa using h
  | x :: l, r, _, r', e, h => by
    simp only [VRs] at e
    obtain ⟨y, q, rfl, h1, h2⟩ := e
    simp only [List.cons_append, VRs]
    exact ⟨y, q ++ r', rfl, h1, VRs.append h2 h⟩

theorem cut_zero : ∀ {α : Type} {l c : List α} {n : Nat}, cut l 0 n = some c → n ≤ l.length ∧ c = l.take n
  | _, l, c, 0, h => by cases l <;> simp [cut] at h <;> simp [h]
  | _, [], c, n + 1, h => by simp [cut] at h
  | _, x :: l, c, n + 1, h => by
    simp only [cut, Option.map_eq_some_iff] at h
    obtain ⟨d, hd, rfl⟩ := h
    obtain ⟨h1, rfl⟩ := cut_zero hd
    exact ⟨by simp; omega, by simp⟩

theorem cut_eq : ∀ {α : Type} {l c : List α} {o n : Nat}, cut l o n = some c → o + n ≤ l.length ∧ c = (l.drop o).take n
  | _, l, c, 0, n, h => by obtain ⟨h1, rfl⟩ := cut_zero h; exact ⟨by omega, by simp⟩
  | _, [], c, o + 1, n, h => by cases n <;> simp [cut] at h
  | _, x :: l, c, o + 1, n, h => by
    have h' : cut l o n = some c := by cases n <;> simpa [cut] using h
    obtain ⟨h1, rfl⟩ := cut_eq h'
    exact ⟨by simp; omega, by simp⟩

theorem VRs.take : ∀ {l : List AV} {l' : List Value} (n : Nat), VRs σ ρ l l' → VRs σ ρ (l.take n) (l'.take n)
  | _, _, 0, _ => by simp [VRs]
  | [], _, n + 1, e => by simp only [VRs] at e; subst e; simp [VRs]
  | x :: l, _, n + 1, e => by
    simp only [VRs] at e
    obtain ⟨y, r, rfl, h1, h2⟩ := e
    simp only [List.take_succ_cons, VRs]
    exact ⟨y, r.take n, rfl, h1, VRs.take n h2⟩

theorem VRs.drop : ∀ {l : List AV} {l' : List Value} (n : Nat), VRs σ ρ l l' → VRs σ ρ (l.drop n) (l'.drop n)
  | _, _, 0, h => by simpa using h
  | [], _, n + 1, e => by simp only [VRs] at e; subst e; simp [VRs]
  | x :: l, _, n + 1, e => by
    simp only [VRs] at e
    obtain ⟨y, r, rfl, h1, h2⟩ := e
    simpa using VRs.drop n h2

theorem VRs.cut {l c : List AV} {l' : List Value} {o n : Nat} (h : VRs σ ρ l l') (hc : Ex.cut l o n = some c) :
    VRs σ ρ c ((l'.drop o).take n) ∧ o + n ≤ l'.length := by
  obtain ⟨h1, rfl⟩ := cut_eq hc
  exact ⟨(h.drop o).take n, by rw [h.length]; exact h1⟩

/-- a single value -/
theorem VRs.one {x : AV} {v : Value} (h : VR σ ρ x v) : VRs σ ρ [x] [v] := by
  simp only [VRs]; exact ⟨v, [], rfl, h, rfl⟩

theorem VRs.nil : VRs σ ρ [] [] := by simp [VRs]
theorem VRs.cons {x : AV} {v : Value} {l : List AV} {l' : List Value} (h : VR σ ρ x v) (h' : VRs σ ρ l l') : VRs σ ρ (x :: l) (v :: l') := by
  simp only [VRs]; exact ⟨v, l', rfl, h, h'⟩

/-- the cells of a value -/
theorem VR.cells {x : AV} {v : Value} {c : List AV} (h : VR σ ρ x v) (hc : cells x = some c) : VRs σ ρ c v.cells.toList := by
  cases x <;> simp only [Ex.cells, Option.some.injEq, reduceCtorEq] at hc <;> (try subst hc)
  case ag l =>
    simp only [VR] at h
    obtain ⟨l', h1, rfl⟩ := h
    simpa [Value.cells] using h1
  all_goals
    have hv : v.cells = #[v] := by
      cases v <;> first | rfl | (exfalso; simp only [VR] at h; revert h; simp)
    rw [hv]
    exact VRs.one h

theorem VR.one {x : AV} {v : Value} (h : VR σ ρ x v) (ho : x.one = true) : v.oneCell' = true := by
  cases x <;> simp only [AV.one, Bool.false_eq_true] at ho <;> simp only [VR] at h
  case b => subst h; rfl
  case i => subst h; rfl
  case s => rw [h.1]; rfl
  case p0 => subst h; rfl
  case p => obtain ⟨L, _, rfl⟩ := h; rfl
  case sn => subst h; rfl
  case sl => obtain ⟨L, k, _, rfl, _⟩ := h; rfl
  case se => obtain ⟨a, k, rfl⟩ := h; rfl
  case m0 => subst h; rfl
  case m => obtain ⟨L, _, rfl⟩ := h; rfl
  case f => obtain ⟨_, _, _, _, rfl⟩ := h; rfl
  case yl => obtain ⟨L, _, rfl⟩ := h; rfl
  case f0 => subst h; rfl
  case it => obtain ⟨_, _, rfl⟩ := h; rfl
  case i0 => subst h; rfl
end

mutual
theorem constOk_sound (σ : Sig) (ρ : Rho) : ∀ (x : AV) (v : Value), constOk v x = true → VR σ ρ x v
  | .b x, v, h => by
    cases v <;> simp only [constOk, Bool.false_eq_true, beq_iff_eq] at h
    simp [VR, h]
  | .i k n, v, h => by
    cases v <;> simp only [constOk, Bool.false_eq_true, Bool.and_eq_true, decide_eq_true_eq] at h
    simp [VR, h]
  | .s l, v, h => by
    cases v <;> simp only [constOk, Bool.false_eq_true, Bool.and_eq_true, decide_eq_true_eq] at h
    rename_i s
    simp only [VR]
    refine ⟨?_, h.2⟩
    congr 1
    cases s
    rename_i data
    simp only [bytesOf, ByteArray.mk.injEq]
    rw [← h.1]
  | .p0, v, h => by
    cases v <;> simp only [constOk, Bool.false_eq_true, Option.isNone_iff_eq_none] at h
    simp [VR, h]
  | .p a o, v, h => by cases v <;> simp [constOk] at h
  | .sn, v, h => by
    cases v <;> simp only [constOk, Bool.false_eq_true, Bool.and_eq_true, Option.isNone_iff_eq_none, Nat.beq_eq] at h
    simp [VR, h]
  | .sl .., v, h => by cases v <;> simp [constOk] at h
  | .se, v, h => by cases v <;> simp [constOk] at h
  | .m0, v, h => by
    cases v <;> simp only [constOk, Bool.false_eq_true, Option.isNone_iff_eq_none] at h
    simp [VR, h]
  | .m a, v, h => by cases v <;> simp [constOk] at h
  | .f .., v, h => by cases v <;> simp [constOk] at h
  | .yl .., v, h => by cases v <;> simp [constOk] at h
  | .f0, v, h => by
    cases v <;> simp only [constOk, Bool.false_eq_true] at h
    simp [VR]
  | .it .., v, h => by cases v <;> simp [constOk] at h
  | .i0, v, h => by
    cases v <;> simp only [constOk, Bool.false_eq_true] at h
    simp [VR]
  | .ag l, v, h => by
    cases v <;> simp only [constOk, Bool.false_eq_true] at h
    rename_i cs
    simp only [VR]
    exact ⟨cs.toList, constsOk_sound σ ρ l cs.toList h, by simp⟩
  | .tu l, v, h => by
    cases v <;> simp only [constOk, Bool.false_eq_true] at h
    rename_i cs
    simp only [VR]
    exact ⟨cs.toList, constsOk_sound σ ρ l cs.toList h, by simp⟩
  | .q n, v, h => by cases v <;> simp [constOk] at h
theorem constsOk_sound (σ : Sig) (ρ : Rho) : ∀ (l : List AV) (vs : List Value), constsOk vs l = true → VRs σ ρ l vs
  | [], vs, h => by
    cases vs with
    | nil => exact VRs.nil
    | cons v vs => simp [constsOk] at h
  | x :: l, vs, h => by
    cases vs with
    | nil => simp [constsOk] at h
    | cons v vs =>
      simp only [constsOk, Bool.and_eq_true] at h
      exact VRs.cons (constOk_sound σ ρ x v h.1) (constsOk_sound σ ρ l vs h.2)
end

/-- two lists, thing by thing -/
inductive F2 {α β : Type} (R : α → β → Prop) : List α → List β → Prop
  | nil : F2 R [] []
  | cons {a : α} {b : β} {l : List α} {l' : List β} : R a b → F2 R l l' → F2 R (a :: l) (b :: l')

theorem Bn.beq_eq : ∀ {a b : Bn}, a.beq b = true → a = b
  | .e, .e, _ => rfl
  | .o a, .o b, h => by rw [Bn.beq_eq (a := a) (b := b) (by simpa [Bn.beq] using h)]
  | .i a, .i b, h => by rw [Bn.beq_eq (a := a) (b := b) (by simpa [Bn.beq] using h)]
  | .e, .o _, h => by simp [Bn.beq] at h
  | .e, .i _, h => by simp [Bn.beq] at h
  | .o _, .e, h => by simp [Bn.beq] at h
  | .o _, .i _, h => by simp [Bn.beq] at h
  | .i _, .e, h => by simp [Bn.beq] at h
  | .i _, .o _, h => by simp [Bn.beq] at h

mutual
theorem AV.beq_eq : ∀ {x y : AV}, x.beq y = true → x = y
  | .b x, y, h => by cases y <;> simp only [AV.beq, Bool.false_eq_true, beq_iff_eq] at h; rw [h]
  | .i k n, y, h => by cases y <;> simp only [AV.beq, Bool.false_eq_true, Bool.and_eq_true, decide_eq_true_eq] at h; rw [h.1, h.2]
  | .s l, y, h => by cases y <;> simp only [AV.beq, Bool.false_eq_true, beq_iff_eq] at h; rw [h]
  | .p0, y, h => by cases y <;> simp only [AV.beq, Bool.false_eq_true] at h; rfl
  | .p a o, y, h => by cases y <;> simp only [AV.beq, Bool.false_eq_true, Bool.and_eq_true, beq_iff_eq] at h; rw [Bn.beq_eq h.1, h.2]
  | .sn, y, h => by cases y <;> simp only [AV.beq, Bool.false_eq_true] at h; rfl
  | .sl a o n c x z, y, h => by
    cases y <;> simp only [AV.beq, Bool.false_eq_true, Bool.and_eq_true, beq_iff_eq] at h
    obtain ⟨⟨⟨⟨⟨h1, h2⟩, h3⟩, h4⟩, h5⟩, h6⟩ := h
    rw [Bn.beq_eq h1, h2, h3, h4, h5, h6]
  | .se, y, h => by cases y <;> simp only [AV.beq, Bool.false_eq_true] at h; rfl
  | .m0, y, h => by cases y <;> simp only [AV.beq, Bool.false_eq_true] at h; rfl
  | .m a, y, h => by cases y <;> simp only [AV.beq, Bool.false_eq_true] at h; rw [Bn.beq_eq h]
  | .f g u w, y, h => by
    cases y <;> simp only [AV.beq, Bool.false_eq_true, Bool.and_eq_true] at h
    rw [Bn.beq_eq h.1.1, AV.beqs_eq h.1.2, AV.beqs_eq h.2]
  | .yl a, y, h => by cases y <;> simp only [AV.beq, Bool.false_eq_true] at h; rw [Bn.beq_eq h]
  | .f0, y, h => by cases y <;> simp only [AV.beq, Bool.false_eq_true] at h; rfl
  | .it t v, y, h => by
    cases y <;> simp only [AV.beq, Bool.false_eq_true, Bool.and_eq_true, beq_iff_eq] at h
    rw [h.1, AV.beq_eq h.2]
  | .i0, y, h => by cases y <;> simp only [AV.beq, Bool.false_eq_true] at h; rfl
  | .ag l, y, h => by cases y <;> simp only [AV.beq, Bool.false_eq_true] at h; rw [AV.beqs_eq h]
  | .tu l, y, h => by cases y <;> simp only [AV.beq, Bool.false_eq_true] at h; rw [AV.beqs_eq h]
  | .q n, y, h => by cases y <;> simp only [AV.beq, Bool.false_eq_true, beq_iff_eq] at h; rw [h]
theorem AV.beqs_eq : ∀ {l l' : List AV}, AV.beqs l l' = true → l = l'
  | [], l', h => by cases l' <;> simp only [AV.beqs, Bool.false_eq_true] at h; rfl
  | x :: l, l', h => by
    cases l' with
    | nil => simp [AV.beqs] at h
    | cons y l' =>
      simp only [AV.beqs, Bool.and_eq_true] at h
      rw [AV.beq_eq h.1, AV.beqs_eq h.2]
end

end Go.Ex
