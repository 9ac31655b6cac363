/-
  A verified evaluator, part 1: its data and the evaluator itself. (No statement on the model is made here.)
-/
import GoSem.Core.View
import GoSem.Core.Program
namespace Go.Ev
noncomputable section

/-- Binary numerals, least digit first, bijective: e is 0, l p is 2p+1, r p is 2p+2. -/
inductive Pth where
  | e
  | l (p : Pth)
  | r (p : Pth)

inductive Tr (α : Type) where
  | nil
  | nd (l : Tr α) (v : Option α) (r : Tr α)

def Pth.succ (p : Pth) : Pth := Pth.rec (.l .e) (fun p _ => .r p) (fun _ ih => .l ih) p
def Pth.num (p : Pth) : Nat := Pth.rec 0 (fun _ ih => 2 * ih + 1) (fun _ ih => 2 * ih + 2) p
def toPth (n : Nat) : Pth := Nat.rec .e (fun _ ih => ih.succ) n
def Tr.get {α : Type} (p : Pth) : Tr α → Option α :=
  Pth.rec (motive := fun _ => Tr α → Option α)
    (fun t => Tr.rec (motive := fun _ => Option α) none (fun _ v _ _ _ => v) t)
    (fun _ ih t => Tr.rec (motive := fun _ => Option α) none (fun l _ _ _ _ => ih l) t)
    (fun _ ih t => Tr.rec (motive := fun _ => Option α) none (fun _ _ r _ _ => ih r) t) p
def Tr.set {α : Type} (p : Pth) (x : α) : Tr α → Tr α :=
  Pth.rec (motive := fun _ => Tr α → Tr α)
    (fun t => Tr.rec (motive := fun _ => Tr α) (.nd .nil (some x) .nil) (fun l _ r _ _ => .nd l (some x) r) t)
    (fun _ ih t => Tr.rec (motive := fun _ => Tr α) (.nd (ih .nil) none .nil) (fun l v r _ _ => .nd (ih l) v r) t)
    (fun _ ih t => Tr.rec (motive := fun _ => Tr α) (.nd .nil none (ih .nil)) (fun l v r _ _ => .nd l v (ih r)) t) p
def Pth.beq (p : Pth) : Pth → Bool :=
  Pth.rec (motive := fun _ => Pth → Bool)
    (fun q => Pth.rec (motive := fun _ => Bool) true (fun _ _ => false) (fun _ _ => false) q)
    (fun _ ih q => Pth.rec (motive := fun _ => Bool) false (fun q' _ => ih q') (fun _ _ => false) q)
    (fun _ ih q => Pth.rec (motive := fun _ => Bool) false (fun _ _ => false) (fun q' _ => ih q') q) p
def nth {α : Type} (l : List α) : Nat → Option α :=
  List.rec (motive := fun _ => Nat → Option α) (fun _ => none)
    (fun x _ ih n => Nat.rec (motive := fun _ => Option α) (some x) (fun m _ => ih m) n) l
/-- the list with the elements from place o on replaced by vs (as far as both reach) -/
def overlay {α : Type} (l : List α) : Nat → List α → List α :=
  List.rec (motive := fun _ => Nat → List α → List α) (fun _ _ => [])
    (fun x t ih n vs => Nat.rec (motive := fun _ => List α)
      (List.rec (motive := fun _ => List α) (x :: t) (fun v vs' _ => v :: ih 0 vs') vs) (fun m _ => x :: ih m vs) n) l
def app {α : Type} (l m : List α) : List α := List.rec m (fun x _ ih => x :: ih) l
def len {α : Type} (l : List α) : Nat := List.rec 0 (fun _ _ ih => Nat.succ ih) l
/-- the first n elements; none: there are fewer -/
def takeN {α : Type} (n : Nat) : List α → Option (List α) :=
  Nat.rec (motive := fun _ => List α → Option (List α)) (fun _ => some [])
    (fun _ ih l => List.rec (motive := fun _ => Option (List α)) none (fun x t _ => match ih t with | some r => some (x :: r) | none => none) l) n
def dropN {α : Type} (n : Nat) : List α → List α :=
  Nat.rec (motive := fun _ => List α → List α) (fun l => l)
    (fun _ ih l => List.rec (motive := fun _ => List α) [] (fun _ t _ => ih t) l) n
def repl {α : Type} (n : Nat) (x : List α) : List α := Nat.rec [] (fun _ ih => app x ih) n
def natsEq (a : List Nat) : List Nat → Bool :=
  List.rec (motive := fun _ => List Nat → Bool)
    (fun b => List.rec (motive := fun _ => Bool) true (fun _ _ _ => false) b)
    (fun x _ ih b => List.rec (motive := fun _ => Bool) false (fun y t _ => match Nat.beq x y with | true => ih t | false => false) b) a
def natsLess (a : List Nat) : List Nat → Bool :=
  List.rec (motive := fun _ => List Nat → Bool)
    (fun b => List.rec (motive := fun _ => Bool) false (fun _ _ _ => true) b)
    (fun x _ ih b => List.rec (motive := fun _ => Bool) false
      (fun y t _ => match Nat.blt x y with | true => true | false => match Nat.beq x y with | true => ih t | false => false) b) a

/-- Values ('ifc t v': an interface's value; 'mth m t v': the method m of it; 'sl0': an empty slice that is not nil, of the capacity 0 (true) or an unknown one; 'iv k lo hi st': a number lo + j * st up to hi; 'pre i q': a number whose remainder (of n, or of -(n+1) where n is negative) by q is the inputs' number i). 'unk': nothing is known of it. 'sym i k lo hi': the number that the inputs' number i is, from lo to hi. A block is named by a numeral; 'sl p o len lo e': a slice at place o of block p; its capacity is at least lo; lo itself where e is 0; else it reaches to the block's end, its elements being of e cells. -/
inductive V where
  | unk
  | bool (b : Bool)
  | int (k : IntKind) (n : Int)
  | str (s : List Nat)
  | nilp
  | ptr (p : Pth) (o : Nat)
  | gptr (g o : Nat)
  | nilsl
  | sl (p : Pth) (o len lo e : Nat)
  | nilmp
  | mp (p : Pth)
  | nilfn
  | fn (f : Nat) (first captured : List V)
  | yld (p : Pth)
  | agg (l : List V)
  | tup (l : List V)
  | sym (i : Nat) (k : IntKind) (lo hi : Int)
  | ifc (t : Nat) (v : V)
  | nilif
  | mth (m : String) (t : Nat) (v : V)
  | sl0 (z : Bool)
  | iv (k : IntKind) (lo hi : Int) (st : Nat)
  | pre (i : Nat) (q : Nat)

abbrev Regs := Tr V

inductive Src where
  | loc (i : Nat)
  | reg (p : Pth)
  | cst (v : V)

/-- what is compared: a kind of one-cell value -/
inductive BK where
  | int
  | str
  | bool
  | ptr
  | sl
  | mp
  | fn
  | ifc
/-- one value; or an aggregate's cells at the given places -/
inductive EK where
  | base (b : BK)
  | flat (offs : List (Nat × BK))

inductive CK where
  | int (k : IntKind)
  | same
  | b2s
  | mark

inductive SK where
  | str
  | sl (size : Nat)
  | arr (n size : Nat)

/-- what makes one new block and reads none -/
inductive FI where
  | alloc (zs : List V)
  | box (s : Src)
  | buildsl (zs : List V) (len : Nat) (parts : List (Nat × Nat × Src))
  | mkmap
  | mksl (zs : List V) (bytes : Nat) (len cap : Src)
  | s2b (s : Src)

inductive I where
  | bad
  | mov (s : Src)
  | pick (c a b : Src)
  | new (f : FI)
  | build (zs : List V) (parts : List (Nat × Nat × Src))
  | load (s : Src)
  | loadn (s : Src) (n : Nat)
  | store (a v : Src) (n : Nat)
  | nilchk (mt : String → Nat → Option Nat) (s : Src)
  | bin (op : BinOp) (x y : Src)
  | eq (neg : Bool) (e : EK) (x y : Src)
  | un (op : UnOp) (x : Src)
  | conv (c : CK) (x : Src)
  | mkfn (f : Nat) (first captured : List Src)
  | slice (k : SK) (x : Src) (lo hi mx : Option Src)
  | faddr (x : Src) (off : Nat)
  | xaddr (k : SK) (x i : Src)
  | idxs (x i : Src)
  | idxa (n size : Nat) (agg : Bool) (x i : Src)
  | field (x : Src) (off size : Nat) (agg : Bool)
  | lookup (e : EK) (z : V) (m k : Src) (ok : Bool)
  | mapupd (e : EK) (m k v : Src)
  | range (m : Src)
  | next (it : Src)
  | entry (it : Src)
  | extract (s : Src) (i : Nat)
  | call (f : Nat) (args : List Src)
  | callv (mt : String → Nat → Option Nat) (f : Src) (args : List Src)
  | append (size bytes : Nat) (s x : Src)
  | len (k : BK) (x : Src)
  | cap (x : Src)
  | delete (e : EK) (m k : Src)
  | clear (zs : Option (List V)) (x : Src)
  | copy (size : Nat) (d s : Src)
  | minmax (mx : Bool) (l : List Src)
  | mkif (t : Nat) (x : Src)
  | invoke (mt : Nat → Option Nat) (r : Src) (args : List Src)
  | mkmeth (m : String) (x : Src)
  | appendz (zs : List V) (size bytes : Nat) (s x : Src)

/-- an operation: its guard (which earlier result, wanted to be what), what it does -/
inductive IOp where
  | mk (guard : Option (Nat × Bool)) (i : I)

/-- an operation of a region that draws: besides, its place, the places that surely go before it (all of them), and its class -/
inductive Cls where
  | pure
  | calm
  | float
  | loud

inductive DOp where
  | mk (guard : Option (Nat × Bool)) (i : I) (cls : Cls) (bef : Nat)

inductive RV where
  | tmp (p : Pth)
  | cell (p : Pth) (n : Option Nat)

inductive IR where
  | bad
  | skip
  | ret
  | exit (id : Nat)
  | seq (a b : IR)
  | cond (c : Src) (a b : IR)
  | block (id : Nat) (a : IR)
  | loop (a : IR)
  | reg (ops : List IOp) (exps : List (Pth × Nat))
  | regd (ops : List DOp) (exps : List (Pth × Nat))
  | rf (f : Src) (ps : List Pth) (a b : IR)

inductive Fun where
  | bad
  | mk (params : List Pth) (body : IR) (res : List RV)

inductive O where
  | dead
  | cells (l : List V)
  | map (es : List (V × V × Nat)) (clock : Nat)
  | siter (s : List Nat) (pos : Nat)
  | miter (m : Option Pth) (since : Nat) (seen : List Nat) (stepped : Nat)
  | loop (busy : Bool) (pend : Option (Option Nat)) (done : Bool) (R : Regs) (ps : List Pth) (a b : IR)

abbrev Heap := Tr O

/- results -/
inductive Out where
  | bad
  | nrm (R : Regs) (H : Heap) (n : Pth)
  | brk (id : Nat) (R : Regs) (H : Heap) (n : Pth)
  | ret (R : Regs) (H : Heap) (n : Pth)

inductive Res where
  | bad
  | ok (v : V) (H : Heap) (n : Pth)

/- integers -/
def IntKindlim : IntKind → Nat
  | .i8 => 128 | .i16 => 32768 | .i32 => 2147483648 | .i64 => 9223372036854775808
  | .u8 => 256 | .u16 => 65536 | .u32 => 4294967296 | .u64 => 18446744073709551616
def wr (k : IntKind) (n : Int) : Int :=
  match n with
  | .ofNat m => match Nat.blt m (IntKindlim k) with | true => .ofNat m | false => k.wrap n
  | .negSucc m => match k.signed with
    | true => (match Nat.blt m (IntKindlim k) with | true => .negSucc m | false => k.wrap n)
    | false => k.wrap n
def ilt (a b : Int) : Bool :=
  match a with
  | .ofNat m => (match b with | .ofNat n => Nat.blt m n | .negSucc _ => false)
  | .negSucc m => (match b with | .ofNat _ => true | .negSucc n => Nat.blt n m)
def ieq (a b : Int) : Bool :=
  match a with
  | .ofNat m => (match b with | .ofNat n => Nat.beq m n | .negSucc _ => false)
  | .negSucc m => (match b with | .ofNat _ => false | .negSucc n => Nat.beq n m)
def kno : IntKind → Nat
  | .i8 => 0 | .i16 => 1 | .i32 => 2 | .i64 => 3 | .u8 => 4 | .u16 => 5 | .u32 => 6 | .u64 => 7
def keq (a b : IntKind) : Bool := Nat.beq (kno a) (kno b)
def natOf : Int → Option Nat
  | .ofNat n => some n
  | .negSucc _ => none

/-- the operand's value -/
def src (L : List V) (R : Regs) (s : Src) : V :=
  match s with
  | .loc i => (match nth L i with | some v => v | none => .unk)
  | .reg p => (match R.get p with | some v => v | none => .unk)
  | .cst v => v
def srcs (L : List V) (R : Regs) (l : List Src) : List V := List.rec [] (fun s _ ih => src L R s :: ih) l

/-- a value's cells; none: it is not known how many -/
def cellsOf : V → Option (List V)
  | .unk => none
  | .tup _ => none
  | .agg l => some l
  | v => some [v]

/-- c is none of lo, lo + st, .. up to hi -/
def offIv (c lo hi : Int) (st : Nat) : Bool :=
  match ilt c lo, ilt hi c with
  | true, _ => true
  | _, true => true
  | _, _ => (match natOf (c - lo) with
    | some d => (match Nat.beq (Nat.mod d st) 0 with | true => false | false => true)
    | none => false)
def intEq (x y : V) : Option Bool :=
  match x, y with
  | .int k a, .int j c => (match keq k j with | true => some (ieq a c) | false => none)
  | .sym _ k lo hi, .int j c => (match keq k j, ilt c lo, ilt hi c with | true, true, _ => some false | true, _, true => some false | _, _, _ => none)
  | .int j c, .sym _ k lo hi => (match keq k j, ilt c lo, ilt hi c with | true, true, _ => some false | true, _, true => some false | _, _, _ => none)
  | .sym i k _ _, .sym j q _ _ => (match Nat.beq i j, keq k q with | true, true => some true | _, _ => none)
  | .iv k lo hi st, .int j c => (match keq k j, offIv c lo hi st with | true, true => some false | _, _ => none)
  | .int j c, .iv k lo hi st => (match keq k j, offIv c lo hi st with | true, true => some false | _, _ => none)
  | _, _ => none
def baseEq (b : BK) (x y : V) : Option Bool :=
  match b with
  | .int => intEq x y
  | .str => (match x, y with | .str a, .str c => some (natsEq a c) | _, _ => none)
  | .bool => (match x, y with | .bool a, .bool c => some (match a with | true => c | false => !c) | _, _ => none)
  | .ptr => (match x, y with
    | .nilp, .nilp => some true
    | .nilp, .ptr _ _ => some false
    | .ptr _ _, .nilp => some false
    | .nilp, .gptr _ _ => some false
    | .gptr _ _, .nilp => some false
    | .ptr p o, .ptr q r => (match p.beq q with | true => some (Nat.beq o r) | false => none)
    | _, _ => none)
  | .sl => (match x, y with
    | .nilsl, .nilsl => some true
    | .nilsl, .sl _ _ _ _ _ => some false
    | .sl _ _ _ _ _, .nilsl => some false
    | .nilsl, .sl0 _ => some false
    | .sl0 _, .nilsl => some false
    | _, _ => none)
  | .mp => (match x, y with
    | .nilmp, .nilmp => some true
    | .nilmp, .mp _ => some false
    | .mp _, .nilmp => some false
    | _, _ => none)
  | .fn => (match x, y with
    | .nilfn, .nilfn => some true
    | .nilfn, .fn _ _ _ => some false
    | .fn _ _ _, .nilfn => some false
    | _, _ => none)
  | .ifc => (match x, y with
    | .nilif, .nilif => some true
    | .nilif, .ifc _ _ => some false
    | .ifc _ _, .nilif => some false
    | _, _ => none)

def flatEq (a b : List V) (offs : List (Nat × BK)) : Option Bool :=
  List.rec (some true) (fun o _ ih => match nth a o.1 with
    | some x => (match nth b o.1 with
      | some y => (match baseEq o.2 x y with | some true => ih | some false => some false | none => none)
      | none => none)
    | none => none) offs
def eqOf (e : EK) (x y : V) : Option Bool :=
  match e with
  | .base b => baseEq b x y
  | .flat offs => (match x, y with | .agg a, .agg b => flatEq a b offs | _, _ => none)

def bitsOf (op : BinOp) (k : IntKind) (a b : Int) : Option V :=
  match natOf a, natOf b with
  | some m, some n => (match Nat.blt m (IntKindlim k), Nat.blt n (IntKindlim k) with
    | true, true => (match op with
      | .and => some (.int k (.ofNat (Nat.land m n)))
      | .or => some (.int k (.ofNat (Nat.lor m n)))
      | .xor => some (.int k (.ofNat (Nat.xor m n)))
      | .andNot => some (.int k (.ofNat (Nat.xor m (Nat.land m n))))
      | _ => none)
    | _, _ => none)
  | _, _ => none
def intBin (op : BinOp) (k : IntKind) (a b : Int) : Option V :=
  match op with
  | .add => some (.int k (wr k (a + b)))
  | .sub => some (.int k (wr k (a - b)))
  | .mul => some (.int k (wr k (a * b)))
  | .quo => (match ieq b 0 with | true => none | false => some (.int k (wr k (a.tdiv b))))
  | .rem => (match ieq b 0 with | true => none | false => some (.int k (a.tmod b)))
  | .eql => some (.bool (ieq a b))
  | .neq => some (.bool (!(ieq a b)))
  | .lss => some (.bool (ilt a b))
  | .leq => some (.bool (!(ilt b a)))
  | .gtr => some (.bool (ilt b a))
  | .geq => some (.bool (!(ilt a b)))
  | .shl => none
  | .shr => none
  | op => bitsOf op k a b
def strBin (op : BinOp) (a b : List Nat) : Option V :=
  match op with
  | .add => (match Nat.ble (len a + len b) 1073741824 with | true => some (.str (app a b)) | false => none)
  | .eql => some (.bool (natsEq a b))
  | .neq => some (.bool (!(natsEq a b)))
  | .lss => some (.bool (natsLess a b))
  | .leq => some (.bool (!(natsLess b a)))
  | .gtr => some (.bool (natsLess b a))
  | .geq => some (.bool (!(natsLess a b)))
  | _ => none
def shiftOf (left : Bool) (k : IntKind) (a : Int) (b : Int) : Option V :=
  match natOf b with
  | some n => (match Nat.ble n 64 with
    | true => (match left with
      | true => some (.int k (wr k (a * (Int.ofNat (2 ^ (min n k.bits))))))
      | false => some (.int k (a.fdiv (Int.ofNat (2 ^ (min n k.bits))))))
    | false => none)
  | none => none
/-- from where to where an integer lies -/
def ivOf (x : V) : Option (IntKind × Int × Int) :=
  match x with
  | .int k n => some (k, n, n)
  | .sym _ k lo hi => some (k, lo, hi)
  | .iv k lo hi _ => some (k, lo, hi)
  | _ => none
/-- is the first number (from a to b) less than the second one (from c to d)? -/
def ivLess (a b c d : Int) : Option Bool :=
  match ilt b c with
  | true => some true
  | false => (match ilt a d with | false => some false | true => none)
def notO (x : Option Bool) : Option V :=
  match x with
  | some b => some (.bool (!b))
  | none => none
def yesO (x : Option Bool) : Option V :=
  match x with
  | some b => some (.bool b)
  | none => none
def sameSym (x y : V) : Bool :=
  match x, y with
  | .sym i _ _ _, .sym j _ _ _ => Nat.beq i j
  | _, _ => false
/-- is x (from a to b) less than y (from c to d)? -/
def symLess (x y : V) (a b c d : Int) : Option Bool :=
  match sameSym x y with
  | true => some false
  | false => ivLess a b c d
/-- a number among several: from where to where, by which step -/
def stepsOf (x : V) : Option (Int × Int × Nat) :=
  match x with
  | .sym _ _ lo hi => some (lo, hi, 1)
  | .iv _ lo hi st => some (lo, hi, st)
  | _ => none
def constOf (x : V) : Option Int :=
  match x with
  | .int _ c => some c
  | _ => none
def fits (k : IntKind) (n : Int) : Bool := ieq (wr k n) n
def symAdd (k : IntKind) (x y : V) : Option V :=
  match stepsOf x, constOf y with
  | some (lo, hi, st), some c => (match fits k (lo + c), fits k (hi + c) with
    | true, true => some (.iv k (lo + c) (hi + c) st)
    | _, _ => none)
  | _, _ => none
def symMul (k : IntKind) (x y : V) : Option V :=
  match stepsOf x, constOf y with
  | some (lo, hi, st), some (.ofNat c) => (match fits k (lo * c), fits k (hi * c) with
    | true, true => some (.iv k (lo * c) (hi * c) (st * c))
    | _, _ => none)
  | _, _ => none
def symBin (op : BinOp) (x y : V) : Option V :=
  match ivOf x, ivOf y with
  | some (k, a, b), some (j, c, d) => (match keq k j with
    | true => (match op with
      | .eql => yesO (intEq x y)
      | .neq => notO (intEq x y)
      | .lss => yesO (symLess x y a b c d)
      | .geq => notO (symLess x y a b c d)
      | .gtr => yesO (symLess y x c d a b)
      | .leq => notO (symLess y x c d a b)
      | .add => (match symAdd k x y with | some v => some v | none => symAdd k y x)
      | .mul => (match symMul k x y with | some v => some v | none => symMul k y x)
      | _ => none)
    | false => none)
  | _, _ => none
def binOf (op : BinOp) (x y : V) : Option V :=
  match x, y with
  | .int k a, .int j b => (match op with
    | .shl => shiftOf true k a b
    | .shr => shiftOf false k a b
    | op => (match keq k j with | true => intBin op k a b | false => none))
  | .str a, .str b => strBin op a b
  | x, y => symBin op x y
def unOf (op : UnOp) (x : V) : Option V :=
  match op, x with
  | .not, .bool b => some (.bool (!b))
  | .neg, .int k n => some (.int k (wr k (0 - n)))
  | _, _ => none

/-- memory -/
def cellAt (Γ : Nat → List V) (H : Heap) (a : V) : Option V :=
  match a with
  | .ptr p o => (match H.get p with | some (.cells l) => nth l o | _ => none)
  | .gptr g o => nth (Γ g) o
  | _ => none
def cellsAt (Γ : Nat → List V) (H : Heap) (a : V) (n : Nat) : Option (List V) :=
  match a with
  | .ptr p o => (match H.get p with | some (.cells l) => takeN n (dropN o l) | _ => none)
  | .gptr g o => takeN n (dropN o (Γ g))
  | _ => none
def oneV : V → Bool
  | .unk => false
  | .agg _ => false
  | .tup _ => false
  | _ => true
def allOne (l : List V) : Bool := List.rec true (fun v _ ih => match oneV v with | true => ih | false => false) l
def putAt (H : Heap) (a : V) (vs : List V) : Option Heap :=
  match a with
  | .ptr p o => (match H.get p with
    | some (.cells l) => (match Nat.ble (o + len vs) (len l), allOne vs with | true, true => some (H.set p (.cells (overlay l o vs))) | _, _ => none)
    | _ => none)
  | _ => none

/-- parts laid over cells -/
def layPart (L : List V) (R : Regs) (c : List V) (p : Nat × Nat × Src) : Option (List V) :=
  match p with
  | (off, size, s) => (match cellsOf (src L R s) with
    | some vs => (match Nat.beq (len vs) size, Nat.ble (off + size) (len c) with
      | true, true => some (overlay c off vs)
      | _, _ => none)
    | none => none)
def layParts (L : List V) (R : Regs) (ps : List (Nat × Nat × Src)) : List V → Option (List V) :=
  List.rec (motive := fun _ => List V → Option (List V)) (fun c => some c)
    (fun p _ ih c => match layPart L R c p with | some c' => ih c' | none => none) ps
def findKey (e : EK) (k : V) (es : List (V × V × Nat)) : Nat → Option (Option (Nat × V)) :=
  List.rec (motive := fun _ => Nat → Option (Option (Nat × V))) (fun _ => some none)
    (fun x _ ih i => match eqOf e k x.1 with
      | some true => some (some (i, x.2.1))
      | some false => ih (Nat.succ i)
      | none => none) es
def setVal (es : List (V × V × Nat)) (v : V) : Nat → List (V × V × Nat) :=
  List.rec (motive := fun _ => Nat → List (V × V × Nat)) (fun _ => [])
    (fun e t ih i => Nat.rec (motive := fun _ => List (V × V × Nat)) ((e.1, v, e.2.2) :: t) (fun j _ => e :: ih j) i) es
def dropAt {α : Type} (es : List α) : Nat → List α :=
  List.rec (motive := fun _ => Nat → List α) (fun _ => [])
    (fun e t ih i => Nat.rec (motive := fun _ => List α) t (fun j _ => e :: ih j) i) es
def notSeen (seen : List Nat) (b : Nat) : Bool := List.rec true (fun s _ ih => match Nat.beq s b with | true => false | false => ih) seen
def leftOf (seen : List Nat) (es : List (V × V × Nat)) : List (V × V × Nat) :=
  List.rec [] (fun e _ ih => match notSeen seen e.2.2 with | true => e :: ih | false => ih) es
def anyBefore (last : Nat) (es : List (V × V × Nat)) : Bool := List.rec false (fun e _ ih => match Nat.blt e.2.2 last with | true => true | false => ih) es
def findBorn (b : Nat) (es : List (V × V × Nat)) : Option (V × V × Nat) :=
  List.rec none (fun e _ ih => match Nat.beq e.2.2 b with | true => some e | false => ih) es
def lastOf (l : List Nat) : Option Nat := List.rec none (fun x _ ih => match ih with | some y => some y | none => some x) l
def bytesOf (l : List V) : Option (List Nat) :=
  List.rec (some []) (fun v _ ih => match v with
    | .int .u8 (.ofNat n) => (match Nat.blt n 256, ih with | true, some r => some (n :: r) | _, _ => none)
    | _ => none) l
def ofBytes (l : List Nat) : List V := List.rec [] (fun n _ ih => .int .u8 (.ofNat n) :: ih) l

/-- what a call does: of a function; of a round of a loop over a function -/
structure Cal where
  fn : Nat → List V → Heap → Pth → Res
  rd : IR → Regs → Heap → Pth → Out
abbrev Glo := Nat → List V
/-- what an operation is, its operands known: the callee's evaluator, the package-level variables, the region's results so far (newest first), the frame, the memory, the next block's name -/
abbrev Ev := Cal → Glo → List V → Regs → Heap → Pth → Res

def fresh (H : Heap) (n : Pth) (o : O) (v : V) : Res :=
  match H.get n with
  | none => .ok v (H.set n o) n.succ
  | some _ => .bad
def ret? (v : Option V) (H : Heap) (n : Pth) : Res :=
  match v with
  | some x => .ok x H n
  | none => .bad
def addrPlus (a : V) (n : Nat) : Option V :=
  match a with
  | .ptr p o => some (.ptr p (o + n))
  | .gptr g o => some (.gptr g (o + n))
  | _ => none

def evBad : Ev := fun _ _ _ _ _ _ => .bad
def evMov (s : Src) : Ev := fun _ _ L R H n => .ok (src L R s) H n
def evPick (c a b : Src) : Ev := fun _ _ L R H n =>
  match src L R c with
  | .bool b' => (match b' with | true => .ok (src L R a) H n | false => .ok (src L R b) H n)
  | _ => .bad
def evBuild (zs : List V) (parts : List (Nat × Nat × Src)) : Ev := fun _ _ L R H n =>
  match layParts L R parts zs with
  | some l => .ok (.agg l) H n
  | none => .bad
def evLoad (s : Src) : Ev := fun _ Γ L R H n => ret? (cellAt Γ H (src L R s)) H n
def evLoadn (s : Src) (m : Nat) : Ev := fun _ Γ L R H n =>
  match cellsAt Γ H (src L R s) m with
  | some l => .ok (.agg l) H n
  | none => .bad
def evStore (a v : Src) (m : Nat) : Ev := fun _ _ L R H n =>
  match cellsOf (src L R v) with
  | some l => (match Nat.beq (len l) m with
    | true => (match putAt H (src L R a) l with | some H' => .ok .unk H' n | none => .bad)
    | false => .bad)
  | none => .bad
def sure : V → Bool
  | .ptr _ _ => true
  | .gptr _ _ => true
  | .fn _ _ _ => true
  | .sl _ _ _ _ _ => true
  | .ifc _ _ => true
  | _ => false
def sureM (mt : String → Nat → Option Nat) (v : V) : Bool :=
  match v with
  | .mth m t _ => (match mt m t with | some _ => true | none => false)
  | v => sure v
def evNilchk (mt : String → Nat → Option Nat) (s : Src) : Ev := fun _ _ L R H n => match sureM mt (src L R s) with | true => .ok (src L R s) H n | false => .bad
def evBin (op : BinOp) (x y : Src) : Ev := fun _ _ L R H n => ret? (binOf op (src L R x) (src L R y)) H n
def evEq (neg : Bool) (e : EK) (x y : Src) : Ev := fun _ _ L R H n =>
  match eqOf e (src L R x) (src L R y) with
  | some b => .ok (.bool (match neg with | true => !b | false => b)) H n
  | none => .bad
def evUn (op : UnOp) (x : Src) : Ev := fun _ _ L R H n => ret? (unOf op (src L R x)) H n
def evConv (c : CK) (x : Src) : Ev := fun _ Γ L R H n =>
  match c, src L R x with
  | .int k, .int _ m => .ok (.int k (wr k m)) H n
  | .same, .str s => .ok (.str s) H n
  | .mark, .sl p o m c e => (match H.get p with
    | some (.cells l) => .ok (.sl p o m c e) (H.set p (.cells l)) n
    | _ => .bad)
  | .b2s, .nilsl => .ok (.str []) H n
  | .b2s, .sl p o m _ _ => (match cellsAt Γ H (.ptr p o) m with
    | some l => (match bytesOf l with | some bs => .ok (.str bs) H n | none => .bad)
    | none => .bad)
  | _, _ => .bad
def evMkfn (f : Nat) (a b : List Src) : Ev := fun _ _ L R H n => .ok (.fn f (srcs L R a) (srcs L R b)) H n
/-- a new block's value (its name being n) and what it holds -/
def evF (f : FI) (L : List V) (R : Regs) (n : Pth) : Option (V × O) :=
  match f with
  | .alloc zs => some (.ptr n 0, .cells zs)
  | .box s => (match cellsOf (src L R s) with
    | some l => some (.ptr n 0, .cells l)
    | none => none)
  | .buildsl zs m parts => (match layParts L R parts zs with
    | some l => some (.sl n 0 m m 0, .cells l)
    | none => none)
  | .mkmap => some (.mp n, .map [] 0)
  | .mksl zs bytes l c => (match src L R l, src L R c with
    | .int _ (.ofNat a), .int _ (.ofNat b) => (match Nat.ble a b, Nat.ble (b * bytes) 1073741824, Nat.ble b 1073741824 with
      | true, true, true => some (.sl n 0 a b 0, .cells (repl b zs))
      | _, _, _ => none)
    | _, _ => none)
  | .s2b s => (match src L R s with
    | .str s => some (.sl n 0 (len s) (len s) 1, .cells (ofBytes s))
    | _ => none)
def evNew (f : FI) : Ev := fun _ _ L R H n =>
  match evF f L R n with
  | some (v, o) => fresh H n o v
  | none => .bad
def bound? (L : List V) (R : Regs) (d : Nat) (s : Option Src) : Option Nat :=
  match s with
  | none => some d
  | some s => (match src L R s with | .int _ (.ofNat a) => some a | _ => none)
def hmOK (mx hi : Option Src) : Bool :=
  match mx with
  | none => true
  | some _ => (match hi with | some _ => true | none => false)
def evSlice (k : SK) (x : Src) (lo hi mx : Option Src) : Ev := fun _ _ L R H n =>
  match k with
  | .str => (match src L R x with
    | .str s => (match bound? L R 0 lo, bound? L R (len s) hi, mx with
      | some a, some b, none => (match Nat.ble a b, Nat.ble b (len s) with
        | true, true => ret? (match takeN (b - a) (dropN a s) with | some r => some (.str r) | none => none) H n
        | _, _ => .bad)
      | _, _, _ => .bad)
    | _ => .bad)
  | .sl size => (match hmOK mx hi with | false => .bad | true => match src L R x with
    | .nilsl => (match bound? L R 0 lo, bound? L R 0 hi, bound? L R 0 mx with
      | some a, some b, some d => (match Nat.beq a 0, Nat.beq b 0, Nat.beq d 0 with
        | true, true, true => .ok .nilsl H n
        | _, _, _ => .bad)
      | _, _, _ => .bad)
    | .sl p o m c ex => (match bound? L R 0 lo, bound? L R m hi, bound? L R c mx with
      | some a, some b, some d => (match Nat.ble a b, Nat.ble b d, Nat.ble d c with
        | true, true, true => (match Nat.beq a 0, Nat.beq d a with
          | true, _ => .ok (.sl p o b d (match mx with | some _ => 0 | none => ex)) H n
          | false, false => (match mx with
            | some _ => .ok (.sl p (o + a * size) (b - a) (d - a) 0) H n
            | none => (match ex with
              | 0 => .ok (.sl p (o + a * size) (b - a) (d - a) 0) H n
              | Nat.succ e => (match Nat.beq (Nat.succ e) size with | true => .ok (.sl p (o + a * size) (b - a) (d - a) (Nat.succ e)) H n | false => .bad)))
          | false, true => (match mx, ex with | none, Nat.succ _ => .ok (.sl0 false) H n | _, _ => .ok (.sl p o 0 0 0) H n))
        | _, _, _ => .bad)
      | _, _, _ => .bad)
    | .sl0 z => (match bound? L R 0 lo, bound? L R 0 hi, bound? L R 0 mx with
      | some a, some b, some d => (match Nat.beq a 0, Nat.beq b 0, Nat.beq d 0 with
        | true, true, true => .ok (.sl0 (match mx with | some _ => true | none => z)) H n
        | _, _, _ => .bad)
      | _, _, _ => .bad)
    | _ => .bad)
  | .arr _ _ => .bad
def evFaddr (x : Src) (off : Nat) : Ev := fun _ _ L R H n => ret? (addrPlus (src L R x) off) H n
def evXaddr (k : SK) (x i : Src) : Ev := fun _ _ L R H n =>
  match src L R i with
  | .int _ (.ofNat j) => (match k with
    | .sl size => (match src L R x with
      | .sl p o m _ _ => (match Nat.blt j m with | true => .ok (.ptr p (o + j * size)) H n | false => .bad)
      | _ => .bad)
    | .arr m size => (match Nat.blt j m with | true => ret? (addrPlus (src L R x) (j * size)) H n | false => .bad)
    | .str => .bad)
  | _ => .bad
def evIdxs (x i : Src) : Ev := fun _ _ L R H n =>
  match src L R i, src L R x with
  | .int _ (.ofNat j), .str s => (match nth s j with | some b => .ok (.int .u8 (.ofNat b)) H n | none => .bad)
  | _, _ => .bad
def partOf (l : List V) (off size : Nat) (agg : Bool) : Option V :=
  match agg with
  | true => (match takeN size (dropN off l) with | some r => some (.agg r) | none => none)
  | false => nth l off
def evIdxa (m size : Nat) (agg : Bool) (x i : Src) : Ev := fun _ _ L R H n =>
  match src L R i, src L R x with
  | .int _ (.ofNat j), .agg l => (match Nat.blt j m with | true => ret? (partOf l (j * size) size agg) H n | false => .bad)
  | _, _ => .bad
def evField (x : Src) (off size : Nat) (agg : Bool) : Ev := fun _ _ L R H n =>
  match src L R x with
  | .agg l => ret? (partOf l off size agg) H n
  | _ => .bad
def mapAt (H : Heap) (m : V) : Option (List (V × V × Nat)) :=
  match m with
  | .nilmp => some []
  | .mp p => (match H.get p with | some (.map es _) => some es | _ => none)
  | _ => none
def allInt (k : IntKind) (es : List (V × V × Nat)) : Bool :=
  List.rec true (fun e _ ih => match e.1 with
    | .int j _ => (match keq k j with | true => ih | false => false)
    | _ => false) es
def hasInt (k : IntKind) (c : Int) (es : List (V × V × Nat)) : Bool :=
  List.rec false (fun e _ ih => match e.1 with
    | .int j a => (match keq k j, ieq a c with | true, true => true | _, _ => ih)
    | _ => ih) es
/-- are c, c + st, .. (m numbers) all among the keys? -/
def hasAll (k : IntKind) (st : Nat) (es : List (V × V × Nat)) (m : Nat) : Int → Bool :=
  Nat.rec (motive := fun _ => Int → Bool) (fun _ => true)
    (fun _ ih c => match hasInt k c es with | true => ih (c + st) | false => false) m
/-- is a number among several surely a key? -/
def coversInt (x : V) (es : List (V × V × Nat)) : Bool :=
  match x with
  | .sym _ k lo hi => (match natOf (hi - lo), allInt k es with
    | some d, true => (match Nat.ble d 4096 with | true => hasAll k 1 es (Nat.succ d) lo | false => false)
    | _, _ => false)
  | .iv k lo hi st => (match natOf (hi - lo), allInt k es, Nat.blt 0 st with
    | some d, true, true => (match Nat.ble d 4096 with | true => hasAll k st es (Nat.succ (Nat.div d st)) lo | false => false)
    | _, _, _ => false)
  | _ => false
def covers (e : EK) (x : V) (es : List (V × V × Nat)) : Bool :=
  match e with
  | .base .int => coversInt x es
  | _ => false
def evLookup (e : EK) (z : V) (m k : Src) (ok : Bool) : Ev := fun _ _ L R H n =>
  match mapAt H (src L R m) with
  | some es => (match findKey e (src L R k) es 0 with
    | some (some (_, v)) => .ok (match ok with | true => .tup [v, .bool true] | false => v) H n
    | some none => .ok (match ok with | true => .tup [z, .bool false] | false => z) H n
    | none => (match covers e (src L R k) es with
      | true => .ok (match ok with | true => .tup [.unk, .bool true] | false => .unk) H n
      | false => .bad))
  | none => .bad
def evMapupd (e : EK) (m k v : Src) : Ev := fun _ _ L R H n =>
  match src L R m with
  | .mp p => (match H.get p with
    | some (.map es c) => (match findKey e (src L R k) es 0 with
      | some (some (i, _)) => .ok .unk (H.set p (.map (setVal es (src L R v) i) c)) n
      | some none => .ok .unk (H.set p (.map (app es [(src L R k, src L R v, c)]) (Nat.succ c))) n
      | none => .bad)
    | _ => .bad)
  | _ => .bad
def evRange (m : Src) : Ev := fun _ _ L R H n =>
  match src L R m with
  | .nilmp => fresh H n (.miter none 0 [] 0) (.ptr n 0)
  | .mp p => (match H.get p with
    | some (.map _ c) => fresh H n (.miter (some p) c [] c) (.ptr n 0)
    | _ => .bad)
  | _ => .bad
def stepOf (H : Heap) (n q p : Pth) (since : Nat) (seen : List Nat) (c : Nat) (left : List (V × V × Nat)) : Res :=
  match left with
  | [] => .ok (.tup [.bool false]) H n
  | [(k, v, b)] => (match Nat.blt b since with
    | true => .ok (.tup [.bool true, k, v]) (H.set q (.miter (some p) since (app seen [b]) c)) n
    | false => .bad)
  | _ => .bad
def evNext (it : Src) : Ev := fun _ _ L R H n =>
  match src L R it with
  | .ptr q 0 => (match H.get q with
    | some (.miter none _ _ _) => .ok (.tup [.bool false]) H n
    | some (.miter (some p) since seen last) => (match H.get p with
      | some (.map es c) =>
        (match seen, es, anyBefore last es with
          | _ :: _, _ :: _, false => .bad
          | _, _, _ => stepOf H n q p since seen c (leftOf seen es))
      | _ => .bad)
    | _ => .bad)
  | _ => .bad
def evEntry (it : Src) : Ev := fun _ _ L R H n =>
  match src L R it with
  | .ptr q 0 => (match H.get q with
    | some (.miter (some p) _ seen st) => (match H.get p, lastOf seen with
      | some (.map es c), some b => (match Nat.beq c st with
        | true => (match findBorn b es with | some (k, v, _) => .ok (.tup [k, v]) H n | none => .bad)
        | false => .bad)
      | _, _ => .bad)
    | _ => .bad)
  | _ => .bad
def evExtract (s : Src) (i : Nat) : Ev := fun _ _ L R H n =>
  match src L R s with
  | .tup l => ret? (nth l i) H n
  | _ => .bad
def evCall (f : Nat) (args : List Src) : Ev := fun cal _ L R H n => cal.fn f (srcs L R args) H n
def setOver (R : Regs) (ps : List Pth) : List V → Option Regs :=
  List.rec (motive := fun _ => List V → Option Regs) (fun l => match l with | [] => some R | _ :: _ => none)
    (fun p _ ih l => match l with
      | [] => none
      | v :: t => (match ih t with | some R' => some (Tr.set p v R') | none => none)) ps
/-- a round of a loop over a function -/
def evYield (cal : Cal) (p : Pth) (args : List V) (H : Heap) (n : Pth) : Res :=
  match H.get p with
  | some (.loop false _ false R ps a b) => (match setOver R ps args with
    | some R1 => (match cal.rd a R1 H n with
      | .nrm R2 H2 n2 => (match H2.get p with
        | some (.loop false pd false R' ps' a' b') => (match cal.rd b R2 (H2.set p (.loop true pd false R' ps' a' b')) n2 with
          | .nrm _ H3 n3 => (match H3.get p with
            | some (.loop true _ false R' ps' a' b') => .ok (.bool true) (H3.set p (.loop false none false R' ps' a' b')) n3
            | _ => .bad)
          | .brk id _ H3 n3 => (match H3.get p with
            | some (.loop true _ false R' ps' a' b') => .ok (.bool false) (H3.set p (.loop false (some (some id)) true R' ps' a' b')) n3
            | _ => .bad)
          | .ret _ H3 n3 => (match H3.get p with
            | some (.loop true _ false R' ps' a' b') => .ok (.bool false) (H3.set p (.loop false (some none) true R' ps' a' b')) n3
            | _ => .bad)
          | .bad => .bad)
        | _ => .bad)
      | _ => .bad)
    | none => .bad)
  | _ => .bad
def evCallv (mt : String → Nat → Option Nat) (f : Src) (args : List Src) : Ev := fun cal _ L R H n =>
  match src L R f with
  | .fn g a b => cal.fn g (app a (app (srcs L R args) b)) H n
  | .yld p => evYield cal p (srcs L R args) H n
  | .mth m t v => (match mt m t with
    | some g => cal.fn g (v :: srcs L R args) H n
    | none => .bad)
  | _ => .bad
/-- what is appended: its cells -/
def tailOf (Γ : Glo) (H : Heap) (size : Nat) (x : V) : Option (Nat × List V) :=
  match x with
  | .nilsl => some (0, [])
  | .sl0 _ => some (0, [])
  | .sl p o m _ _ => (match cellsAt Γ H (.ptr p o) (m * size) with | some l => some (m, l) | none => none)
  | .str s => (match Nat.beq size 1 with | true => some (len s, ofBytes s) | false => none)
  | _ => none
def grown (H : Heap) (n : Pth) (size bytes need : Nat) (l : List V) : Res :=
  match Nat.ble ((2 * need + 1024) * bytes) 1073741824, Nat.ble need 1073741824 with
  | true, true => fresh H n (.cells l) (.sl n 0 need need size)
  | _, _ => .bad
def evAppend (size bytes : Nat) (s x : Src) : Ev := fun _ Γ L R H n =>
  match tailOf Γ H size (src L R x) with
  | some (m, new) => (match src L R s with
    | .nilsl => (match Nat.beq m 0 with
      | true => .ok .nilsl H n
      | false => grown H n size bytes m new)
    | .sl0 z => (match Nat.beq m 0, z with
      | true, _ => .ok (.sl0 z) H n
      | false, true => grown H n size bytes m new
      | false, false => .bad)
    | .sl p o k c ex => (match Nat.ble (k + m) c with
      | true => (match putAt H (.ptr p (o + k * size)) new with
        | some H' => .ok (.sl p o (k + m) c ex) H' n
        | none => .bad)
      | false => (match cellsAt Γ H (.ptr p o) (k * size) with
        | some old => (match ex with
          | 0 => grown H n size bytes (k + m) (app old new)
          | Nat.succ e => (match Nat.beq (Nat.succ e) size, H.get n, allOne new, Nat.beq o 0 with
            | true, none, true, true => grown (H.set p .dead) n size bytes (k + m) (app old new)
            | _, _, _, _ => .bad))
        | none => .bad))
    | _ => .bad)
  | none => .bad
/-- as many zero values as x says appended to nil -/
def evAppendz (zs : List V) (size bytes : Nat) (s x : Src) : Ev := fun _ _ L R H n =>
  match src L R s, src L R x with
  | .nilsl, .int .i64 (.ofNat m) => (match Nat.beq m 0 with
    | true => .ok .nilsl H n
    | false => grown H n size bytes m (repl m zs))
  | _, _ => .bad
def lenOf (k : BK) (H : Heap) (x : V) : Option V :=
  match k, x with
  | .str, .str s => some (.int .i64 (.ofNat (len s)))
  | .sl, .nilsl => some (.int .i64 0)
  | .sl, .sl0 _ => some (.int .i64 0)
  | .sl, .sl _ _ m _ _ => some (.int .i64 (.ofNat m))
  | .mp, .nilmp => some (.int .i64 0)
  | .mp, .mp p => (match H.get p with | some (.map es _) => some (.int .i64 (.ofNat (len es))) | _ => none)
  | _, _ => none
def evLen (k : BK) (x : Src) : Ev := fun _ _ L R H n => ret? (lenOf k H (src L R x)) H n
def evCap (x : Src) : Ev := fun _ _ L R H n =>
  match src L R x with
  | .nilsl => .ok (.int .i64 0) H n
  | .sl0 true => .ok (.int .i64 0) H n
  | .sl _ _ _ c 0 => .ok (.int .i64 (.ofNat c)) H n
  | _ => .bad
def evDelete (e : EK) (m k : Src) : Ev := fun _ _ L R H n =>
  match src L R m with
  | .mp p => (match H.get p with
    | some (.map es c) => (match findKey e (src L R k) es 0 with
      | some (some (i, _)) => .ok (.tup []) (H.set p (.map (dropAt es i) c)) n
      | some none => .ok (.tup []) (H.set p (.map es c)) n
      | none => .bad)
    | _ => .bad)
  | _ => .bad
def evClear (zs : Option (List V)) (x : Src) : Ev := fun _ _ L R H n =>
  match zs, src L R x with
  | some _, .nilsl => .ok (.tup []) H n
  | some zs, .sl p o m _ _ => (match putAt H (.ptr p o) (repl m zs) with | some H' => .ok (.tup []) H' n | none => .bad)
  | none, .mp p => (match H.get p with | some (.map _ c) => .ok (.tup []) (H.set p (.map [] c)) n | _ => .bad)
  | _, _ => .bad
def evCopy (size : Nat) (d s : Src) : Ev := fun _ Γ L R H n =>
  match src L R d, tailOf Γ H size (src L R s) with
  | .nilsl, some _ => .ok (.int .i64 0) H n
  | .sl0 _, some _ => .ok (.int .i64 0) H n
  | .sl p o k _ _, some (m, l) => (match takeN ((min k m) * size) l with
    | some l' => (match putAt H (.ptr p o) l' with | some H' => .ok (.int .i64 (.ofNat (min k m))) H' n | none => .bad)
    | none => .bad)
  | _, _ => .bad
def mm (mx : Bool) (a b : Int) : Int :=
  match mx with
  | true => (match ilt a b with | true => b | false => a)
  | false => (match ilt b a with | true => b | false => a)
def mmAll (mx : Bool) (k : IntKind) (l : List V) : Int → Option Int :=
  List.rec (motive := fun _ => Int → Option Int) (fun a => some a)
    (fun v _ ih a => match v with
      | .int j b => (match keq k j with | true => ih (mm mx a b) | false => none)
      | _ => none) l
def evMinmax (mx : Bool) (l : List Src) : Ev := fun _ _ L R H n =>
  match srcs L R l with
  | .int k a :: t => (match mmAll mx k t a with | some b => .ok (.int k b) H n | none => .bad)
  | _ => .bad

def evMkif (t : Nat) (x : Src) : Ev := fun _ _ L R H n => .ok (.ifc t (src L R x)) H n
/-- a call through an interface: which type has which function -/
def evInvoke (mt : Nat → Option Nat) (r : Src) (args : List Src) : Ev := fun cal _ L R H n =>
  match src L R r with
  | .ifc t v => (match mt t with
    | some f => cal.fn f (v :: srcs L R args) H n
    | none => .bad)
  | _ => .bad
def evMkmeth (m : String) (x : Src) : Ev := fun _ _ L R H n =>
  match src L R x with
  | .ifc t v => .ok (.mth m t v) H n
  | _ => .bad

def evI (i : I) : Ev :=
  I.rec (motive := fun _ => Ev) evBad evMov evPick evNew evBuild evLoad evLoadn evStore evNilchk evBin evEq evUn evConv evMkfn
    evSlice evFaddr evXaddr evIdxs evIdxa evField evLookup evMapupd evRange evNext evEntry evExtract evCall evCallv evAppend evLen evCap
    evDelete evClear evCopy evMinmax evMkif evInvoke evMkmeth evAppendz i

/-- is the guard met? none: it is not known -/
def met (g : Option (Nat × Bool)) (L : List V) : Option Bool :=
  match g with
  | none => some true
  | some (i, want) => (match nth L i with
    | some (.bool b) => some (match want with | true => b | false => !b)
    | some (.tup []) => some false
    | _ => none)

inductive ROut where
  | bad
  | ok (L : List V) (H : Heap) (n : Pth)

def evOp1 (cal : Cal) (Γ : Glo) (R : Regs) (o : IOp) (L : List V) (H : Heap) (n : Pth) : ROut :=
  match o with
  | .mk g i => (match met g L with
    | some true => (match evI i cal Γ L R H n with | .ok v H' n' => .ok (v :: L) H' n' | .bad => .bad)
    | some false => .ok (.tup [] :: L) H n
    | none => .bad)
/-- a region that does not draw: its operations in the text's order -/
def evOps (cal : Cal) (Γ : Glo) (R : Regs) (ops : List IOp) : List V → Heap → Pth → ROut :=
  List.rec (motive := fun _ => List V → Heap → Pth → ROut) (fun L H n => .ok L H n)
    (fun o _ ih L H n => match evOp1 cal Γ R o L H n with | .ok L' H' n' => ih L' H' n' | .bad => .bad) ops
def expo (L : List V) (R : Regs) (exps : List (Pth × Nat)) : Regs :=
  List.rec R (fun e _ ih => Tr.set e.1 (match nth L e.2 with | some v => v | none => .unk) ih) exps

/- a region that draws its order -/
inductive Calm where
  | mk (idx : Nat) (i : I) (L : List V) (v : V) (bef : Nat)
inductive Pend where
  | mk (idx : Nat) (p : Pth) (o : O)
inductive Past where
  | mk (idx : Nat) (H : Heap)
inductive DOut where
  | bad
  | ok (L : List V) (H : Heap) (n : Pth) (past : List Past) (calms : List Calm) (pend : List Pend)

/-- is digit i of m 1? -/
def bit (m i : Nat) : Bool := Nat.beq (Nat.mod (Nat.shiftRight m i) 2) 1
/-- equal values; false: they may differ -/
def veq (fuel : Nat) : V → V → Bool :=
  Nat.rec (motive := fun _ => V → V → Bool) (fun _ _ => false) (fun _ ih x y =>
    match x, y with
    | .bool a, .bool b => (match a with | true => b | false => !b)
    | .int k a, .int j b => (match keq k j with | true => ieq a b | false => false)
    | .str a, .str b => natsEq a b
    | .nilp, .nilp => true
    | .ptr p o, .ptr q r => (match p.beq q with | true => Nat.beq o r | false => false)
    | .gptr p o, .gptr q r => (match Nat.beq p q with | true => Nat.beq o r | false => false)
    | .nilsl, .nilsl => true
    | .sl p o a b c, .sl q r d e f => (match p.beq q, Nat.beq o r, Nat.beq a d, Nat.beq b e with
      | true, true, true, true => Nat.beq c f
      | _, _, _, _ => false)
    | .nilmp, .nilmp => true
    | .mp p, .mp q => p.beq q
    | .nilfn, .nilfn => true
    | .fn f a b, .fn g c d => (match Nat.beq f g with
      | true => (match (List.rec (motive := fun _ => List V → Bool) (fun m => match m with | [] => true | _ :: _ => false)
            (fun x _ ih2 m => match m with | [] => false | y :: m' => (match ih x y with | true => ih2 m' | false => false)) a : List V → Bool) c with
        | true => (List.rec (motive := fun _ => List V → Bool) (fun m => match m with | [] => true | _ :: _ => false)
            (fun x _ ih2 m => match m with | [] => false | y :: m' => (match ih x y with | true => ih2 m' | false => false)) b : List V → Bool) d
        | false => false)
      | false => false)
    | .agg a, .agg c => (List.rec (motive := fun _ => List V → Bool) (fun m => match m with | [] => true | _ :: _ => false)
            (fun x _ ih2 m => match m with | [] => false | y :: m' => (match ih x y with | true => ih2 m' | false => false)) a : List V → Bool) c
    | .tup a, .tup c => (List.rec (motive := fun _ => List V → Bool) (fun m => match m with | [] => true | _ :: _ => false)
            (fun x _ ih2 m => match m with | [] => false | y :: m' => (match ih x y with | true => ih2 m' | false => false)) a : List V → Bool) c
    | .sym i k a b, .sym j q c d => (match Nat.beq i j, keq k q, ieq a c with | true, true, true => ieq b d | _, _, _ => false)
    | .nilif, .nilif => true
    | .ifc t a, .ifc u b => (match Nat.beq t u with | true => ih a b | false => false)
    | _, _ => false) fuel
def merge (bef : Nat) (H : Heap) (pend : List Pend) : Heap :=
  List.rec H (fun q _ ih => match q with
    | .mk i p o => (match bit bef i with
      | true => (match Tr.get p ih with | none => Tr.set p o ih | some _ => ih)
      | false => ih)) pend
def mergeAll (H : Heap) (pend : List Pend) : Heap :=
  List.rec H (fun q _ ih => match q with
    | .mk _ p o => (match Tr.get p ih with | none => Tr.set p o ih | some _ => ih)) pend
/-- the blocks that are not merged are not there -/
def absent (bef : Nat) (H : Heap) (pend : List Pend) : Bool :=
  List.rec true (fun q _ ih => match q with
    | .mk i p _ => (match bit bef i with
      | true => ih
      | false => (match H.get p with | none => ih | some _ => false))) pend
def newName (n : Pth) (pend : List Pend) : Bool :=
  List.rec true (fun q _ ih => match q with | .mk _ p _ => (match p.beq n with | true => false | false => ih)) pend
def stays (cal : Cal) (Γ : Glo) (R : Regs) (n : Pth) (bef : Nat) (H : Heap) (pend : List Pend) (calms : List Calm) : Bool :=
  List.rec true (fun c _ ih => match c with
    | .mk idx i L v b => (match bit bef idx with
      | true => ih
      | false => (match evI i cal Γ L R (merge b H pend) n with
        | .ok v' _ _ => (match veq 100 v v' with | true => ih | false => false)
        | .bad => false))) calms
def was (cal : Cal) (Γ : Glo) (R : Regs) (n : Pth) (i : I) (L : List V) (v : V) (bef : Nat) (pend : List Pend) (past : List Past) : Bool :=
  List.rec true (fun q _ ih => match q with
    | .mk idx H => (match bit bef idx with
      | true => true
      | false => (match evI i cal Γ L R (merge bef H pend) n with
        | .ok v' _ _ => (match veq 100 v v' with | true => ih | false => false)
        | .bad => false))) past
def allIn (bef : Nat) (past : List Past) : Bool :=
  List.rec true (fun q _ ih => match q with | .mk idx _ => (match bit bef idx with | true => ih | false => false)) past

def evD1 (cal : Cal) (Γ : Glo) (R : Regs) (idx : Nat) (i : I) (cls : Cls) (bef : Nat) (L : List V) (H : Heap) (n : Pth)
    (past : List Past) (calms : List Calm) (pend : List Pend) : DOut :=
  match cls with
  | .pure => (match evI i cal Γ L R H n with
    | .ok v _ _ => .ok (v :: L) H n past calms pend
    | .bad => .bad)
  | .calm => (match evI i cal Γ L R (merge bef H pend) n with
    | .ok v _ _ => (match was cal Γ R n i L v bef pend past with
      | true => .ok (v :: L) H n past (.mk idx i L v bef :: calms) pend
      | false => .bad)
    | .bad => .bad)
  | .float => (match i with
    | .new f => (match evF f L R n with
      | some (v, o) => (match H.get n, newName n pend with
        | none, true => .ok (v :: L) H n.succ past calms (.mk idx n o :: pend)
        | _, _ => .bad)
      | none => .bad)
    | _ => .bad)
  | .loud => (match allIn bef past with
    | true => (match evI i cal Γ L R (merge bef H pend) n with
      | .ok v H' n' => (match absent bef H' pend, stays cal Γ R n bef H' pend calms with
        | true, true => .ok (v :: L) H' n' (.mk idx H :: past) calms pend
        | _, _ => .bad)
      | .bad => .bad)
    | false => .bad)
def evDOp (cal : Cal) (Γ : Glo) (R : Regs) (idx : Nat) (o : DOp) (L : List V) (H : Heap) (n : Pth)
    (past : List Past) (calms : List Calm) (pend : List Pend) : DOut :=
  match o with
  | .mk g i cls bef => (match met g L with
    | some true => evD1 cal Γ R idx i cls bef L H n past calms pend
    | some false => .ok (.tup [] :: L) H n past calms pend
    | none => .bad)
def evDs (cal : Cal) (Γ : Glo) (R : Regs) (ops : List DOp) : Nat → List V → Heap → Pth → List Past → List Calm → List Pend → DOut :=
  List.rec (motive := fun _ => Nat → List V → Heap → Pth → List Past → List Calm → List Pend → DOut)
    (fun _ L H n past calms pend => .ok L H n past calms pend)
    (fun o _ ih idx L H n past calms pend => match evDOp cal Γ R idx o L H n past calms pend with
      | .ok L' H' n' past' calms' pend' => ih (Nat.succ idx) L' H' n' past' calms' pend'
      | .bad => .bad) ops

/- code -/
abbrev Co := Nat → Regs → Heap → Pth → Out
def coBad : Co := fun _ _ _ _ => .bad
def coSkip : Co := fun _ R H n => .nrm R H n
def coRet : Co := fun _ R H n => .ret R H n
def coExit (id : Nat) : Co := fun _ R H n => .brk id R H n
def coSeq (a b : Co) : Co := fun m R H n =>
  match a m R H n with
  | .nrm R' H' n' => b m R' H' n'
  | .brk i R' H' n' => .brk i R' H' n'
  | .ret R' H' n' => .ret R' H' n'
  | .bad => .bad
def coCond (c : Src) (a b : Co) : Co := fun m R H n =>
  match src [] R c with
  | .bool t => (match t with | true => a m R H n | false => b m R H n)
  | _ => .bad
def coBlock (id : Nat) (a : Co) : Co := fun m R H n =>
  match a m R H n with
  | .nrm R' H' n' => .nrm R' H' n'
  | .brk i R' H' n' => (match Nat.beq i id with | true => .nrm R' H' n' | false => .brk i R' H' n')
  | .ret R' H' n' => .ret R' H' n'
  | .bad => .bad
/-- at most m rounds -/
def coLoop (a : Co) : Co := fun m R H n =>
  (Nat.rec (motive := fun _ => Regs → Heap → Pth → Out) (fun _ _ _ => .bad)
    (fun _ ih R H n => match a m R H n with
      | .nrm R' H' n' => ih R' H' n'
      | .brk i R' H' n' => .brk i R' H' n'
      | .ret R' H' n' => .ret R' H' n'
      | .bad => .bad) m : Regs → Heap → Pth → Out) R H n
def coReg (cal : Cal) (Γ : Glo) (ops : List IOp) (exps : List (Pth × Nat)) : Co := fun _ R H n =>
  match evOps cal Γ R ops [] H n with
  | .ok L H' n' => .nrm (expo L R exps) H' n'
  | .bad => .bad
def coRegd (cal : Cal) (Γ : Glo) (ops : List DOp) (exps : List (Pth × Nat)) : Co := fun _ R H n =>
  match evDs cal Γ R ops 0 [] H n [] [] [] with
  | .ok L H' n' _ _ pend => .nrm (expo L R exps) (mergeAll H' pend) n'
  | .bad => .bad
/-- a loop over a function: f is called with the yield function of a new loop -/
def coRf (cal : Cal) (f : Src) (ps : List Pth) (a b : IR) : Co := fun _ R H n =>
  match src [] R f, H.get n with
  | .fn g x y, none => (match cal.fn g (app x (app [.yld n] y)) (H.set n (.loop false none false R ps a b)) n.succ with
    | .ok _ H1 n1 => (match H1.get n with
      | some (.loop false pend _ _ _ _ _) => (match pend with
        | none => .nrm R (H1.set n .dead) n1
        | some (some id) => .brk id R (H1.set n .dead) n1
        | some none => .ret R (H1.set n .dead) n1)
      | _ => .bad)
    | .bad => .bad)
  | _, _ => .bad
def evCode (cal : Cal) (Γ : Glo) (c : IR) : Co :=
  IR.rec (motive := fun _ => Co) coBad coSkip coRet coExit (fun _ _ => coSeq) (fun c _ _ => coCond c) (fun id _ => coBlock id) (fun _ => coLoop)
    (coReg cal Γ) (coRegd cal Γ) (fun f ps a b _ _ => coRf cal f ps a b) c
def resOf (Γ : Glo) (R : Regs) (H : Heap) (r : RV) : Option V :=
  match r with
  | .tmp p => R.get p
  | .cell p none => (match R.get p with | some a => cellAt Γ H a | none => none)
  | .cell p (some m) => (match R.get p with | some a => (match cellsAt Γ H a m with | some l => some (.agg l) | none => none) | none => none)
def resAll (Γ : Glo) (R : Regs) (H : Heap) (rs : List RV) : Option (List V) :=
  List.rec (some []) (fun r _ ih => match resOf Γ R H r, ih with | some v, some l => some (v :: l) | _, _ => none) rs
def leave (Γ : Glo) (rs : List RV) (R : Regs) (H : Heap) (n : Pth) : Res :=
  match resAll Γ R H rs with
  | some [v] => .ok v H n
  | some l => .ok (.tup l) H n
  | none => .bad
def evFun (cal : Cal) (Γ : Glo) (rounds : Nat) (f : Fun) (args : List V) (H : Heap) (n : Pth) : Res :=
  match f with
  | .bad => .bad
  | .mk ps body rs => (match setOver .nil ps args with
    | some R => (match evCode cal Γ body rounds R H n with
      | .nrm R' H' n' => leave Γ rs R' H' n'
      | .ret R' H' n' => leave Γ rs R' H' n'
      | _ => .bad)
    | none => .bad)
/-- a call, at most d deep; T gives the functions -/
def evCal (T : Nat → Fun) (Γ : Glo) (rounds : Nat) (d : Nat) : Cal :=
  Nat.rec (motive := fun _ => Cal) ⟨fun _ _ _ _ => .bad, fun _ _ _ _ => .bad⟩
    (fun _ ih => ⟨fun f args H n => evFun ih Γ rounds (T f) args H n, fun c R H n => evCode ih Γ c rounds R H n⟩) d
end
end Go.Ev
