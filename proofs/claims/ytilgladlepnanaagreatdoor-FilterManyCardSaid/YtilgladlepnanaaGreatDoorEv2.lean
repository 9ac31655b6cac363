/-
  A verified evaluator, part 2: from the model's code to the evaluator's. (No statement on the model is made here.)
-/
import Derived.Test.YtilgladlepnanaaGreatDoorEv1
import GoSem.Core.Made
import GoSem.Core.Layout
import GoSem.Op.Equal
import GoSem.Core.Region
namespace Go.Ev
noncomputable section

def ofV : Nat → Value → V
  | 0, _ => .unk
  | n + 1, v => match v with
    | .bool b => .bool b
    | .int k m => .int k m
    | .string s => .str (s.data.toList.map (·.toNat))
    | .pointer none => .nilp
    | .slice none 0 0 => .nilsl
    | .map none => .nilmp
    | .nilFunc => .nilfn
    | .nilIface => .nilif
    | .func (.func f) a b => (match a.toList, b.toList with | [], [] => .fn f [] [] | _, _ => .unk)
    | .agg cs => .agg (cs.toList.map (ofV n))
    | .tuple cs => .tup (cs.toList.map (ofV n))
    | _ => .unk

def idxOf (t : Nat) : List (Option Nat) → Nat → Option Nat
  | [], _ => none
  | d :: l, i => match d with
    | some u => (match Nat.beq u t with | true => some i | false => idxOf t l (i + 1))
    | none => idxOf t l (i + 1)

/-- an operand, where the region's earlier results went to D (newest first) -/
def rs (D : List (Option Nat)) (x : Operand) : Src :=
  match x with
  | .tmp t => (match idxOf t D 0 with | some i => .loc i | none => .reg (toPth t))
  | .const v => .cst (ofV 3 v)
  | .global g => .cst (.gptr g 0)
  | .func f => .cst (.fn f [] [])

def sizeT (P : Program) (t : TypeId) : Option Nat := (P.info? t).map (·.size)
def bytesT (P : Program) (t : TypeId) : Option Nat := (P.info? t).map (·.bytes)
def zeroT (P : Program) (t : TypeId) : Option Value := (P.info? t).bind (·.zero)
def zeroCellsT (P : Program) (t : TypeId) : Option (List V) := (zeroT P t).map fun z => z.cells.toList.map (ofV 3)
def aggT (P : Program) (t : TypeId) : Option Bool := (P.underlying t).map fun d => match d with | .struct _ => true | .array _ _ => true | _ => false
def baseT (P : Program) (t : TypeId) : Option BK :=
  match P.underlying t with
  | some (.int _) => some .int
  | some .string => some .str
  | some .bool => some .bool
  | _ => none

def structParts (P : Program) (fs : Array Field) (r : Operand → Src) : List (Nat × Operand) → Option (List (Nat × Nat × Src))
  | [] => some []
  | p :: l => match fs[p.1]?, structParts P fs r l with
    | some f, some t => (match sizeT P f.type with | some n => some ((f.offset, n, r p.2) :: t) | none => none)
    | _, _ => none
def arrayParts (size : Nat) (r : Operand → Src) : List (Nat × Operand) → List (Nat × Nat × Src)
  | [] => []
  | p :: l => (p.1 * size, size, r p.2) :: arrayParts size r l
def sizesKnown (P : Program) : List Field → Bool
  | [] => true
  | f :: l => match sizeT P f.type with | some _ => sizesKnown P l | none => false
def flatOffs (P : Program) : List Field → Option (List (Nat × BK))
  | [] => some []
  | f :: l => match baseT P f.type, decide (f.name = "_"), flatOffs P l with
    | some b, false, some t => some ((f.offset, b) :: t)
    | _, _, _ => none
def ekOf (P : Program) (t : TypeId) : Option EK :=
  match P.underlying t with
  | some .bool => some (.base .bool)
  | some (.pointer e) => (match sizeT P e with | some (_ + 1) => some (.base .ptr) | _ => none)
  | some (.slice _) => some (.base .sl)
  | some (.map _ _) => some (.base .mp)
  | some (.func _ _ _) => some (.base .fn)
  | some (.struct fs) => (match P.stoodInHeld t, P.eqGuardType P.depth t with
    | false, false => (flatOffs P fs.toList).map .flat
    | _, _ => none)
  | some (.array n e) => (match baseT P e, sizeT P e, P.eqGuardType P.depth t with
    | some b, some 1, false => some (.flat ((List.range n).map fun i => (i, b)))
    | _, _, _ => none)
  | _ => none
def keyOf (P : Program) (t : TypeId) : Option EK := (baseT P t).map .base

def binI (P : Program) (op : BinOp) (t : TypeId) (x y : Src) : I :=
  match P.underlying t, op with
  | some (.int _), op => .bin op x y
  | some .string, op => .bin op x y
  | _, .eql => (match ekOf P t with | some e => .eq false e x y | none => .bad)
  | _, .neq => (match ekOf P t with | some e => .eq true e x y | none => .bad)
  | _, _ => .bad
def convI (P : Program) (s d : TypeId) (x : Src) : I :=
  match P.underlying s, P.underlying d with
  | some (.int _), some (.int k) => .conv (.int k) x
  | some .string, some .string => .conv .same x
  | some .string, some (.slice e) => (match P.underlying e with | some (.int .u8) => .new (.s2b x) | _ => .bad)
  | some (.slice e), some .string => (match P.underlying e with | some (.int .u8) => .conv .b2s x | _ => .bad)
  | some (.slice _), some (.slice e) => (match Nat.beq s d, P.underlying e with | true, some (.int .u8) => .conv .mark x | _, _ => .bad)
  | _, _ => .bad
def appendI (P : Program) (e : TypeId) (x y : Src) : I :=
  match sizeT P e, bytesT P e, zeroCellsT P e with
  | some (n + 1), some (m + 1), some zs => (match Nat.beq (len zs) (n + 1) with | true => .append (n + 1) (m + 1) x y | false => .bad)
  | _, _, _ => .bad
def appendzI (P : Program) (e : TypeId) (x y : Src) : I :=
  match sizeT P e, bytesT P e, zeroCellsT P e with
  | some (n + 1), some (m + 1), some zs => (match Nat.beq (len zs) (n + 1) with | true => .appendz zs (n + 1) (m + 1) x y | false => .bad)
  | _, _, _ => .bad
def builtinI (P : Program) (b : Builtin) (argTypes : Array TypeId) (xs : List Src) : I :=
  match b, argTypes.toList, xs with
  | .append, [s, t], [x, y] => (match P.underlying s, P.underlying t with
    | some (.slice e), some (.slice _) => appendI P e x y
    | some (.slice e), some .string => appendI P e x y
    | some (.slice e), some (.int .i64) => appendzI P e x y
    | _, _ => .bad)
  | .len, [t], [x] => (match P.underlying t with
    | some .string => .len .str x
    | some (.slice _) => .len .sl x
    | some (.map _ _) => .len .mp x
    | some (.array n _) => .mov (.cst (.int .i64 (.ofNat n)))
    | some (.pointer a) => (match P.underlying a with | some (.array n _) => .mov (.cst (.int .i64 (.ofNat n))) | _ => .bad)
    | _ => .bad)
  | .cap, [t], [x] => (match P.underlying t with | some (.slice _) => .cap x | _ => .bad)
  | .delete, [t, _], [m, k] => (match P.underlying t with | some (.map key _) => (match keyOf P key with | some e => .delete e m k | none => .bad) | _ => .bad)
  | .clear, [t], [x] => (match P.underlying t with
    | some (.slice e) => (match zeroCellsT P e with | some zs => .clear (some zs) x | none => .bad)
    | some (.map _ _) => .clear none x
    | _ => .bad)
  | .copy, [d, _], [x, y] => (match P.underlying d with | some (.slice e) => (match sizeT P e with | some n => .copy n x y | none => .bad) | _ => .bad)
  | .min, _, l => .minmax false l
  | .max, _, l => .minmax true l
  | _, _, _ => .bad
/-- is the receiver handed as it is? -/
def plainRecv (P : Program) (t : Nat) (ptr : Bool) : Bool :=
  match P.underlying t with
  | some (.pointer _) => ptr
  | some _ => !ptr
  | none => false
def methAt (P : Program) (name : String) (t : Nat) : Option Nat :=
  match P.info? t with
  | some ti => (match ti.methods.find? (·.name == name) with
    | some m => (match m.path.toList, m.func with
      | [], some (f, ptr) => (match plainRecv P t ptr with | true => some f | false => none)
      | _, _ => none)
    | none => none)
  | none => none
def isC (x : Operand) : Bool := match x with | .const _ => true | _ => false
/-- a comparison of an interface with a constant; true: by '!=' -/
def ifcEq (P : Program) (op : BinOp) (t : Nat) (x y : Operand) : Option Bool :=
  match P.underlying t, op, isC x || isC y with
  | some (.interface _), .eql, true => some false
  | some (.interface _), .neq, true => some true
  | _, _, _ => none
def opI (P : Program) (r : Operand → Src) (op : Op) : I :=
  match op with
  | .move x => .mov (r x)
  | .assign x => .mov (r x)
  | .pick c a b => .pick (r c) (r a) (r b)
  | .alloc t => (match zeroCellsT P t with | some zs => .new (.alloc zs) | none => .bad)
  | .box _ x => .new (.box (r x))
  | .build t ps => (match P.underlying t, zeroCellsT P t with
    | some (.struct fs), some zs => (match sizesKnown P fs.toList, structParts P fs r ps.toList with | true, some l => .build zs l | _, _ => .bad)
    | some (.array _ e), some zs => (match sizeT P e with | some n => .build zs (arrayParts n r ps.toList) | none => .bad)
    | _, _ => .bad)
  | .buildSlice t m ps => (match P.underlying t with
    | some (.slice e) => (match sizeT P e, zeroCellsT P e with
      | some n, some zs => (match Nat.ble (m * n) 16777216, Nat.beq (len zs) n with | true, true => .new (.buildsl (repl m zs) m (arrayParts n r ps.toList)) | _, _ => .bad)
      | _, _ => .bad)
    | _ => .bad)
  | .insert t m k v => (match P.underlying t with | some (.map key _) => (match keyOf P key with | some e => .mapupd e (r m) (r k) (r v) | none => .bad) | _ => .bad)
  | .mapUpdate t m k v => (match P.underlying t with | some (.map key _) => (match keyOf P key with | some e => .mapupd e (r m) (r k) (r v) | none => .bad) | _ => .bad)
  | .load t a => (match aggT P t, sizeT P t with
    | some true, some n => .loadn (r a) n
    | some false, _ => .load (r a)
    | _, _ => .bad)
  | .store t a v => (match sizeT P t with | some n => .store (r a) (r v) n | none => .bad)
  | .nilCheck x => .nilchk (methAt P) (r x)
  | .binOp op t x y _ => (match ifcEq P op t x y with | some neg => .eq neg (.base .ifc) (r x) (r y) | none => binI P op t (r x) (r y))
  | .unOp op _ x => .un op (r x)
  | .convert s d x => convI P s d (r x)
  | .makeFunc (.func f) a b => .mkfn f (a.toList.map r) (b.toList.map r)
  | .makeFunc (.method m) a b => (match a.toList, b.toList with | [x], [] => .mkmeth m (r x) | _, _ => .bad)
  | .makeMap _ none => .new .mkmap
  | .makeMap t (some (.const (.int _ _))) => (match P.underlying t with | some (.map _ _) => .new .mkmap | _ => .bad)
  | .makeSlice t l c => (match P.underlying t with
    | some (.slice e) => (match sizeT P e, bytesT P e, zeroCellsT P e with
      | some n, some m, some zs => (match Nat.beq (len zs) n with | true => .new (.mksl zs m (r l) (r c)) | false => .bad)
      | _, _, _ => .bad)
    | _ => .bad)
  | .slice t x lo hi mx => (match P.underlying t with
    | some .string => .slice .str (r x) (lo.map r) (hi.map r) (mx.map r)
    | some (.slice e) => (match sizeT P e with | some n => .slice (.sl n) (r x) (lo.map r) (hi.map r) (mx.map r) | none => .bad)
    | _ => .bad)
  | .fieldAddr t x f => (match P.underlying t with
    | some (.struct fs) => (match fs[f]? with
      | some g => (match sizeT P g.type with | some (_ + 1) => .faddr (r x) g.offset | _ => .bad)
      | none => .bad)
    | _ => .bad)
  | .field t x f => (match P.underlying t with
    | some (.struct fs) => (match fs[f]? with
      | some g => (match aggT P g.type, sizeT P g.type with | some b, some n => .field (r x) g.offset n b | _, _ => .bad)
      | none => .bad)
    | _ => .bad)
  | .indexAddr t x i => (match P.underlying t with
    | some (.slice e) => (match sizeT P e with | some n => .xaddr (.sl n) (r x) (r i) | none => .bad)
    | some (.array m e) => (match sizeT P e with | some n => .xaddr (.arr m n) (r x) (r i) | none => .bad)
    | _ => .bad)
  | .index t x i => (match P.underlying t with
    | some .string => .idxs (r x) (r i)
    | some (.array m e) => (match sizeT P e, aggT P e with | some n, some b => .idxa m n b (r x) (r i) | _, _ => .bad)
    | _ => .bad)
  | .lookup t m k ok => (match P.underlying t with
    | some (.map key e) => (match keyOf P key, zeroT P e with | some q, some z => .lookup q (ofV 4 z) (r m) (r k) ok | _, _ => .bad)
    | _ => .bad)
  | .range t x => (match P.underlying t with | some (.map _ _) => .range (r x) | _ => .bad)
  | .next it false => .next (r it)
  | .entry it => .entry (r it)
  | .extract x i => .extract (r x) i
  | .makeInterface t x => (match P.underlying t with | some (.interface _) => .bad | some _ => .mkif t (r x) | none => .bad)
  | .call c => (match c.callee with
    | .builtin b => builtinI P b c.argTypes (c.args.toList.map r)
    | .value (.func f) => .call f (c.args.toList.map r)
    | .value x => .callv (methAt P) (r x) (c.args.toList.map r)
    | .invoke x name => .invoke (methAt P name) (r x) (c.args.toList.map r))
  | _ => .bad

/-- the guard, told by how far back its operation lies (m operations stand before this one) -/
def guardI (ops : Array Oper) (D : List (Option Nat)) (m : Nat) (g : Option (Nat × Bool)) : Option (Option (Nat × Bool)) :=
  match g with
  | none => some none
  | some (j, w) => (match ops[j]? with
    | some o => (match o.dst with
      | some t => (match idxOf t D 0 with
        | some i => (match Nat.beq (i + j + 1) m with | true => some (some (i, w)) | false => none)
        | none => none)
      | none => none)
    | none => none)
def opsIR (P : Program) (ops : Array Oper) : List Oper → List (Option Nat) → Nat → List IOp
  | [], _, _ => []
  | o :: l, D, m => (match guardI ops D m o.guard with
    | some g => .mk g (opI P (rs D) o.op)
    | none => .mk none .bad) :: opsIR P ops l (o.dst :: D) (m + 1)

/- which operations surely go before -/
def befOf (acc : List Nat) : List Edge → Nat
  | [] => 0
  | e :: l => (match Region.binds .any e with
    | true => Nat.lor (Nat.lor (2 ^ e.on) (match nth acc e.on with | some b => b | none => 0)) (befOf acc l)
    | false => befOf acc l)
def befs : List Oper → List Nat → List Nat
  | [], acc => acc
  | o :: l, acc => befs l (app acc [befOf acc o.after.toList])
def clsOf (i : I) : Cls :=
  match i with
  | .mov _ => .pure | .pick _ _ _ => .pure | .build _ _ => .pure | .bin _ _ _ => .pure | .eq _ _ _ _ => .pure | .un _ _ => .pure
  | .mkfn _ _ _ => .pure | .slice _ _ _ _ _ => .pure | .faddr _ _ => .pure | .xaddr _ _ _ => .pure | .idxs _ _ => .pure | .idxa _ _ _ _ _ => .pure
  | .field _ _ _ _ => .pure | .extract _ _ => .pure | .nilchk _ _ => .pure | .minmax _ _ => .pure | .mkif _ _ => .pure | .mkmeth _ _ => .pure
  | .load _ => .calm | .loadn _ _ => .calm | .lookup _ _ _ _ _ => .calm | .len _ _ => .calm | .cap _ => .calm
  | .conv c _ => (match c with | .b2s => .calm | .mark => .loud | _ => .pure)
  | .new _ => .float
  | _ => .loud
def dopsIR (P : Program) (ops : Array Oper) : List Oper → List Nat → List (Option Nat) → Nat → List DOp
  | [], _, _, _ => []
  | o :: l, bs, D, m => (match guardI ops D m o.guard, nth bs m with
    | some g, some b => .mk g (opI P (rs D) o.op) (clsOf (opI P (rs D) o.op)) b
    | _, _ => .mk none .bad .loud 0) :: dopsIR P ops l bs (o.dst :: D) (m + 1)
def tmpsOf : List Operand → List Nat
  | [] => []
  | .tmp t :: l => t :: tmpsOf l
  | _ :: l => tmpsOf l
def hasNat (t : Nat) : List Nat → Bool
  | [] => false
  | x :: l => (match Nat.beq x t with | true => true | false => hasNat t l)
/-- operation i (its written slot d) against operation j: what is written in common, or written here and looked at there, is ordered -/
def clash (d : Option Nat) (looks : List Nat) (d' : Option Nat) : Bool :=
  match d' with
  | some t => (match d with | some u => Nat.beq u t | none => false) || hasNat t looks
  | none => false
def looksOf (ops : Array Oper) (o : Oper) : List Nat :=
  app (tmpsOf o.op.operands.toList) (match o.guard with
    | some (j, _) => (match ops[j]? with | some p => (match p.dst with | some t => [t] | none => []) | none => [])
    | none => [])
/-- every operation of l (from place m on) against operation i (before all of them) -/
def apartFrom (ops : Array Oper) (i : Nat) (d : Option Nat) (looks : List Nat) : List Oper → List Nat → Nat → Bool
  | [], _, _ => true
  | o :: l, bs, m => (match nth bs m with
    | some b => (match bit b i with
      | true => (match d, o.dst with | some t, some u => !(Nat.beq t u) | _, _ => true)
      | false => !(clash d looks o.dst) && !(clash o.dst (looksOf ops o) d)) && apartFrom ops i d looks l bs (m + 1)
    | none => false)
def apartAll (ops : Array Oper) (bs : List Nat) : List Oper → Nat → Bool
  | [], _ => true
  | o :: l, m => apartFrom ops m o.dst (looksOf ops o) l bs (m + 1) && apartAll ops bs l (m + 1)
def edgeBack (i : Nat) : List Edge → Bool
  | [] => true
  | e :: l => (match Region.binds .any e with
    | true => (match Nat.blt e.on i with | true => edgeBack i l | false => false)
    | false => edgeBack i l)
def edgesBack : List Oper → Nat → Bool
  | [], _ => true
  | o :: l, i => (match edgeBack i o.after.toList with | true => edgesBack l (i + 1) | false => false)
/-- what is wanted behind the region, out of D (newest first) -/
def expsOf (U : Nat) : List (Option Nat) → Nat → List (Pth × Nat)
  | [], _ => []
  | d :: l, i => (match d with
    | some t => (match bit U t with
      | true => (toPth t, i) :: expsOf U l (i + 1)
      | false => expsOf U l (i + 1))
    | none => expsOf U l (i + 1))
def dstsOf : List Oper → List (Option Nat) → List (Option Nat)
  | [], D => D
  | o :: l, D => dstsOf l (o.dst :: D)
def below (N : Nat) : List (Option Nat) → Bool
  | [] => true
  | d :: l => (match d with | some t => Nat.blt t N | none => true) && below N l
def regIR (P : Program) (U N : Nat) (ops : Array Oper) (draw : Bool) : IR :=
  match below N (dstsOf ops.toList []), draw with
  | true, false => .reg (opsIR P ops ops.toList [] 0) (expsOf U (dstsOf ops.toList []) 0)
  | true, true => (match apartAll ops (befs ops.toList []) ops.toList 0, edgesBack ops.toList 0 with
    | true, true => .regd (dopsIR P ops ops.toList (befs ops.toList []) [] 0) (expsOf U (dstsOf ops.toList []) 0)
    | _, _ => .bad)
  | false, _ => .bad

/- the slots that are looked at outside the region that writes them -/
def orT (t : Nat) (U : Nat) : Nat := Nat.lor (2 ^ t) U
def useList (D : List (Option Nat)) : List Nat → Nat → Nat
  | [], U => U
  | t :: l, U => (match idxOf t D 0 with | some _ => useList D l U | none => useList D l (orT t U))
def useOps : List Oper → List (Option Nat) → Nat → Nat
  | [], _, U => U
  | o :: l, D, U => useOps l (o.dst :: D) (useList D (tmpsOf o.op.operands.toList) U)
def useCode : Code → Nat → Nat
  | .region _ ops _, U => useOps ops.toList [] U
  | .seq a b, U => useCode b (useCode a U)
  | .cond c a b, U => useCode b (useCode a (match c with | .tmp t => orT t U | _ => U))
  | .block _ a, U => useCode a U
  | .loop a, U => useCode a U
  | .scope a, U => useCode a U
  | .rangeFunc f ps a b, U => useCode b (useCode a (useList [] ps.toList (match f with | .tmp t => orT t U | _ => U)))
  | _, U => U
def useRes : List ResultVar → Nat → Nat
  | [], U => U
  | .tmp t :: l, U => useRes l (orT t U)
  | .cell t _ :: l, U => useRes l (orT t U)

def belowAll (N : Nat) : List Nat → Bool
  | [] => true
  | t :: l => Nat.blt t N && belowAll N l
def allBits (U : Nat) : List Nat → Bool
  | [] => true
  | t :: l => bit U t && allBits U l
def nodupN : List Nat → Bool
  | [] => true
  | t :: l => (match hasNat t l with | true => false | false => nodupN l)
def rfIR (U N : Nat) (inner : Bool) (f : Operand) (ps : Array Nat) (a b : IR) : IR :=
  match inner, belowAll N ps.toList, allBits U ps.toList, nodupN ps.toList with
  | false, true, true, true => .rf (rs [] f) (ps.toList.map toPth) a b
  | _, _, _, _ => .bad
/-- code; 'inner': it stands within a round of a loop over a function -/
def codeIR (P : Program) (U N : Nat) (c : Code) : Bool → IR :=
  Code.rec (motive := fun _ => Bool → IR) (fun _ => .skip) (fun _ ops d _ => regIR P U N ops d) (fun _ _ a b i => .seq (a i) (b i))
    (fun c _ _ a b i => .cond (rs [] c) (a i) (b i)) (fun id _ a i => .block id (a i)) (fun _ a i => .loop (a i))
    (fun f ps _ _ a b i => rfIR U N i f ps (a true) (b true)) (fun id _ => .exit id) (fun _ _ _ => .bad) (fun _ _ => .bad) (fun _ _ => .bad)
    (fun _ => .ret) (fun _ _ => .bad) c
def resIR (P : Program) : List ResultVar → List RV
  | [] => []
  | .tmp t :: l => .tmp (toPth t) :: resIR P l
  | .cell a t :: l => (match aggT P t, sizeT P t with
    | some true, some n => RV.cell (toPth a) (some n)
    | some false, _ => RV.cell (toPth a) none
    | _, _ => RV.cell .e (some 0)) :: resIR P l
def resKnown (P : Program) : List ResultVar → Bool
  | [] => true
  | .tmp _ :: l => resKnown P l
  | .cell _ t :: l => (match aggT P t, sizeT P t with | some _, some _ => resKnown P l | _, _ => false)
def slots : Nat → Nat → List Pth
  | 0, _ => []
  | n + 1, i => toPth i :: slots n (i + 1)
def maskOf (fn : Func) (c : Code) : Nat := Nat.lor (2 ^ (fn.params.size + fn.nfree) - 1) (useCode c (useRes fn.results.toList 0))
def funIR (P : Program) (f : Nat) : Fun :=
  match P.funcs[f]? with
  | some fn => (match fn.body, resKnown P fn.results.toList with
    | some c, true => .mk (slots (fn.params.size + fn.nfree) 0) (codeIR P (maskOf fn c) fn.ntmps c false) (resIR P fn.results.toList)
    | _, _ => .bad)
  | none => .bad
end
end Go.Ev
