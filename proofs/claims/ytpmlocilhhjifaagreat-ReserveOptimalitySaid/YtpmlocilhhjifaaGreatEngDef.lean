/- The abstract machine: Go's operations over deep data, in the text's order, without world and addresses. Definitions only. -/
import Derived.WalkKit
import Derived.ProofKit
namespace Go.Proofs.YtpmlocilhhjifaaGreat.Eng
open Go.RowKit

/-- Deep data of one cell: a value without memory behind it, or a slice (tag: 0 it may be old, 1 it is new since the call began, 3 nil) with its elements' cells. -/
inductive D where
  | sc (v : Value)
  | sl (t sz : Nat) (xs : List (List D))
/-- A value: one cell, or a struct's cells. -/
inductive DV where
  | one (x : D)
  | ag (cs : List D)
def DV.cells : DV → List D
  | .one x => [x]
  | .ag cs => cs
/-- What is known of a slot. -/
inductive AT where
  | u
  | v (x : DV)
  | tp (xs : List DV)
  | pd (cs : List D)
  | p (s es i off : Nat)
  | ow (s : Nat)
/-- A block of the call's own: a variable's cells, or an array (element type, cells an element, elements). -/
inductive BE where
  | no
  | dead
  | bx (cs : List D)
  | ar (e es : Nat) (xs : List (List D))
structure AS where
  t : Nat → AT
  b : Nat → BE
/-- Types, as far as they are needed. -/
inductive TK where
  | int (k : IntKind)
  | bool
  | str
  | st (fs : List (Nat × Nat × Nat))
  | slc (e : Nat)
  | ptr (e : Nat)
  | other
structure TI where
  kd : TK
  size : Nat
  bytes : Nat
  agg : Bool
  zero : List D
def upd {α : Type} (f : Nat → α) (k : Nat) (v : α) : Nat → α := fun n => bif Nat.beq n k then v else f n
structure Eff where
  r : AT
  bl : List (Nat × BE)
  rd : List Nat
def setB (f : Nat → BE) : List (Nat × BE) → (Nat → BE)
  | [] => f
  | (s, e) :: r => setB (upd f s e) r
def putT (f : Nat → AT) (dst : Option Nat) (r : AT) : Nat → AT := match dst with
  | some d => upd f d r
  | none => f
def AS.app (S : AS) (dst : Option Nat) (E : Eff) : AS := { t := putT S.t dst E.r, b := setB S.b E.bl }
/-- What is known of the head of a loop: slots and blocks. -/
structure AL where
  t : List (Nat × AT)
  b : List (Nat × BE)
def lk (l : List (Nat × AT)) (k : Nat) : AT := match l with
  | [] => .u
  | (j, x) :: r => bif Nat.beq j k then x else lk r k
def lkb (l : List (Nat × BE)) (k : Nat) : BE := match l with
  | [] => .no
  | (j, x) :: r => bif Nat.beq j k then x else lkb r k
def AL.as (L : AL) : AS := { t := fun k => lk L.t k, b := fun k => lkb L.b k }

/-- Where the abstract machine stops and asks. -/
structure Pi where
  arith : BinOp → IntKind → Int → Int → (Int → Prop) → Prop
  cmp : BinOp → Int → Int → (Bool → Prop) → Prop
  conv : IntKind → Int → (Int → Prop) → Prop
  beq : Bool → Bool → Bool → (Bool → Prop) → Prop
  call : Nat → List DV → (List DV → Prop) → Prop
  turn : Nat → List (List D) → (List (List D) → Prop) → Prop
  get : List (List D) → Int → (List D → Prop) → Prop
  getN : List (List D) → Nat → (List D → Prop) → Prop
  inb : List (List D) → Int → (Nat → Prop) → Prop
  put : List (List D) → Nat → (List D → Option (List D)) → (List (List D) → Prop) → Prop
  app : Nat → Nat → List (List D) → List (List D) → (List (List D) → Prop) → Prop
  len : List (List D) → (Int → Prop) → Prop
  mks : Nat → Int → Int → List D → (List (List D) → Prop) → Prop
  sli : List (List D) → Option Int → Option Int → (List (List D) → Prop) → Prop
  slen : ByteArray → (Int → Prop) → Prop
  sidx : ByteArray → Int → (Int → Prop) → Prop
  ssli : ByteArray → Option Int → Option Int → (ByteArray → Prop) → Prop
  scat : ByteArray → ByteArray → (ByteArray → Prop) → Prop
  scmp : Bool → ByteArray → ByteArray → (Bool → Prop) → Prop
  ofb : List (List D) → (ByteArray → Prop) → Prop
  chk : Bool → Prop → Prop
  loop : ((Exit → AS → Prop) → AS → Prop) → (Exit → AS → Prop) → AS → Prop

section
variable (π : Pi) (ty : Nat → TI)

def nilOf (t : Nat) : D := match (ty t).kd with
  | .slc e => .sl 3 (ty e).size []
  | _ => .sc (.slice none 0 0)
def cst (t : Nat) : Value → AT
  | .slice none 0 0 => .v (.one (nilOf ty t))
  | .int k n => .v (.one (.sc (.int k n)))
  | .bool b => .v (.one (.sc (.bool b)))
  | .string s => .v (.one (.sc (.string s)))
  | .nilFunc => .v (.one (.sc .nilFunc))
  | .pointer none => .v (.one (.sc (.pointer none)))
  | _ => .u
def ev (S : AS) (t : Nat) : Operand → AT
  | .tmp k => S.t k
  | .const v => cst ty t v
  | .func f => .v (.one (.sc (.func (.func f) #[] #[])))
  | .global _ => .u
/-- An operand as data; an array of the call's own becomes data for good. -/
def gdv (S : AS) (x : AT) (K : DV → List (Nat × BE) → List Nat → Prop) : Prop := match x with
  | .v d => K d [] []
  | .ow s => match S.b s with
    | .ar _ es xs => K (.one (.sl 1 es xs)) [(s, .dead)] [s]
    | _ => False
  | _ => False
def gdvs : AS → List (Nat × Operand) → (List DV → List (Nat × BE) → List Nat → Prop) → Prop
  | _, [], K => K [] [] []
  | S, (t, x) :: r, K => gdv S (ev ty S t x) fun d k1 r1 => gdvs { t := S.t, b := setB S.b k1 } r fun ds k2 r2 => K (d :: ds) (k1 ++ k2) (r1 ++ r2)
def fillL (zs : List D) (off : Nat) (cs : List D) : List D := zs.take off ++ cs ++ zs.drop (off + cs.length)
def nth {α : Type} : List α → Nat → Option α
  | [], _ => none
  | x :: _, 0 => some x
  | _ :: r, n + 1 => nth r n
def field? (t j : Nat) : Option (Nat × Nat × Nat) := match (ty t).kd with
  | .st fs => nth fs j
  | _ => none
def elem? (t : Nat) : Option Nat := match (ty t).kd with
  | .slc e => some e
  | _ => none
def buildP (pl : Nat → Option (Nat × Nat)) : List (Nat × DV) → List D → Option (List D)
  | [], zs => some zs
  | (j, d) :: r, zs => match pl j with
    | some (off, n) => bif Nat.beq d.cells.length n && Nat.ble (off + n) zs.length then buildP pl r (fillL zs off d.cells) else none
    | none => none
def buildL (t : Nat) : List (Nat × DV) → List D → Option (List D) := buildP fun j => match field? ty t j with
  | some (off, n, _) => some (off, n)
  | none => none
def idxOk : List (Nat × Operand) → Nat → Bool
  | [], _ => true
  | (i, _) :: r, k => Nat.beq i k && idxOk r (k + 1)
def mkV (agg : Bool) (cs : List D) : Option DV := match agg, cs with
  | true, cs => some (.ag cs)
  | false, [x] => some (.one x)
  | false, _ => none
def zeroOf : DV → Option Int
  | .one (.sc (.int _ n)) => some n
  | _ => none
def asI : AT → Option Int
  | .v (.one (.sc (.int _ n))) => some n
  | _ => none
def optI (S : AS) (x : Option Operand) (K : Option Int → Prop) : Prop := match x with
  | none => K none
  | some o => match asI (ev ty S 3 o) with
    | some n => K (some n)
    | none => False
def storeL (off : Nat) (cs : List D) (x : List D) : Option (List D) := bif Nat.ble (off + cs.length) x.length then some (fillL x off cs) else none
def isCmp : BinOp → Bool
  | .eql | .neq | .lss | .leq | .gtr | .geq => true
  | _ => false
def isNeq : BinOp → Bool
  | .neq => true
  | _ => false
def isEq : BinOp → Bool
  | .neq => true
  | .eql => true
  | _ => false
def isSh : BinOp → Bool
  | .shl => true
  | .shr => true
  | _ => false
def isAdd : BinOp → Bool
  | .add => true
  | _ => false
def kN : IntKind → Nat
  | .i8 => 0 | .i16 => 1 | .i32 => 2 | .i64 => 3 | .u8 => 4 | .u16 => 5 | .u32 => 6 | .u64 => 7
def abin (t : Nat) (op : BinOp) (x y : AT) (K : Eff → Prop) : Prop := match x, y with
  | .v (.one (.sc (.int k a))), .v (.one (.sc (.int k' b))) =>
    bif isSh op then π.arith op k a b fun c => K ⟨.v (.one (.sc (.int k c))), [], []⟩ else
    bif Nat.beq (kN k) (kN k') then
      (bif isCmp op then π.cmp op a b fun c => K ⟨.v (.one (.sc (.bool c))), [], []⟩ else π.arith op k a b fun c => K ⟨.v (.one (.sc (.int k c))), [], []⟩)
    else False
  | .v (.one (.sc (.bool a))), .v (.one (.sc (.bool b))) => match (ty t).kd with
    | .bool => bif isEq op then π.beq (isNeq op) a b fun c => K ⟨.v (.one (.sc (.bool c))), [], []⟩ else False
    | _ => False
  | .v (.one (.sc (.string a))), .v (.one (.sc (.string b))) =>
    bif isEq op then π.scmp (isNeq op) a b fun c => K ⟨.v (.one (.sc (.bool c))), [], []⟩ else
    bif isAdd op then π.scat a b fun c => K ⟨.v (.one (.sc (.string c))), [], []⟩ else False
  | _, _ => False
def sumB (x : AT) (S : AS) (K : List (List D) → List Nat → Prop) : Prop := match x with
  | .v (.one (.sl _ _ xs)) => K xs []
  | .ow s => match S.b s with
    | .ar _ _ xs => K xs [s]
    | _ => False
  | _ => False
def alen (S : AS) (t : Nat) (x : AT) (K : Eff → Prop) : Prop := match (ty t).kd with
  | .str => match x with
    | .v (.one (.sc (.string s))) => π.slen s fun n => K ⟨.v (.one (.sc (.int .i64 n))), [], []⟩
    | _ => False
  | .slc _ => sumB x S fun xs r => π.len xs fun n => K ⟨.v (.one (.sc (.int .i64 n))), [], r⟩
  | _ => False
def aload (S : AS) (t : Nat) (a : AT) (K : Eff → Prop) : Prop := bif Nat.ble 1 (ty t).size then match a with
  | .pd cs => bif Nat.ble (ty t).size cs.length then (match mkV (ty t).agg (cs.take (ty t).size) with | some d => K ⟨.v d, [], []⟩ | none => False) else False
  | .p s es i off => match S.b s with
    | .bx cs => bif Nat.beq i 0 && Nat.ble (off + (ty t).size) cs.length then (match mkV (ty t).agg ((cs.drop off).take (ty t).size) with | some d => K ⟨.v d, [], [s]⟩ | none => False) else False
    | .ar _ es' xs => bif Nat.beq es es' then π.getN xs i fun x => bif Nat.ble (off + (ty t).size) x.length then (match mkV (ty t).agg ((x.drop off).take (ty t).size) with | some d => K ⟨.v d, [], [s]⟩ | none => False) else False else False
    | _ => False
  | _ => False
  else False
def astore (S : AS) (t : Nat) (a : AT) (x : AT) (K : Eff → Prop) : Prop := gdv S x fun d k r => bif Nat.ble 1 (ty t).size && Nat.beq d.cells.length (ty t).size then match a with
  | .p s es i off => match setB S.b k s with
    | .bx cs => bif Nat.beq i 0 then (match storeL off d.cells cs with | some cs' => K ⟨.u, k ++ [(s, .bx cs')], r ++ [s]⟩ | none => False) else False
    | .ar e es' xs => bif Nat.beq es es' then π.put xs i (storeL off d.cells) fun xs' => K ⟨.u, k ++ [(s, .ar e es xs')], r ++ [s]⟩ else False
    | _ => False
  | _ => False else False
def anew (S : AS) (dst : Option Nat) (f : Nat → Prop) : Prop := match dst with
  | some s => match S.b s with
    | .no => f s
    | _ => False
  | none => False
def aappend (S : AS) (dst : Option Nat) (t : Nat) (x y : AT) (K : Eff → Prop) : Prop := match elem? ty t with
  | some e => sumB y S fun ys r => anew S dst fun d => match x with
    | .v (.one (.sl 3 _ [])) => π.app (ty e).bytes (ty e).size [] ys fun zs => K ⟨.ow d, [(d, .ar e (ty e).size zs)], r⟩
    | .ow s => match S.b s with
      | .ar e' es' xs => bif Nat.beq e' e && Nat.beq es' (ty e).size then π.app (ty e).bytes (ty e).size xs ys fun zs => K ⟨.ow d, [(s, .dead), (d, .ar e (ty e).size zs)], s :: r⟩ else False
      | _ => False
    | _ => False
  | none => False
def rets : List DV → AT
  | [d] => .v d
  | ds => .tp ds
/-- The functions that write their one argument's memory and return nothing. -/
def mutF (f : Nat) : Bool := Nat.beq f 999999
def amut (S : AS) (f : Nat) (ts : List Nat) (xs : List Operand) (K : Eff → Prop) : Prop := match ts, xs with
  | [t], [x] => match ev ty S t x with
    | .ow s => match S.b s with
      | .ar e es xs => π.turn f xs fun ys => K ⟨.tp [], [(s, .ar e es ys)], [s]⟩
      | _ => False
    | _ => False
  | _, _ => False
def acall (S : AS) (o : Oper) (c : Call) (K : Eff → Prop) : Prop := match c.callee with
  | .value (.func f) => bif mutF f then amut π ty S f c.argTypes.toList c.args.toList K else bif Nat.beq c.argTypes.size c.args.size then gdvs ty S (c.argTypes.toList.zip c.args.toList) fun ds k r => π.call f ds fun rs => K ⟨rets rs, k, r⟩ else False
  | .value (.tmp k) => match S.t k with
    | .v (.one (.sc (.func (.func f) ⟨[]⟩ ⟨[]⟩))) => bif mutF f then False else bif Nat.beq c.argTypes.size c.args.size then gdvs ty S (c.argTypes.toList.zip c.args.toList) fun ds k r => π.call f ds fun rs => K ⟨rets rs, k, r⟩ else False
    | _ => False
  | .value _ => False
  | .invoke _ _ => False
  | .builtin b => match b, c.argTypes.toList, c.args.toList with
    | .len, [t], [x] => alen π ty S t (ev ty S t x) K
    | .append, [t, t'], [x, y] => bif Nat.beq t t' then aappend π ty S o.dst t (ev ty S t x) (ev ty S t' y) K else False
    | .max, [_, _], [x, y] => match ev ty S 3 x, ev ty S 3 y with
      | .v (.one (.sc (.int k p))), .v (.one (.sc (.int _ q))) => π.cmp .gtr q p fun c => match c with
        | true => K ⟨.v (.one (.sc (.int k q))), [], []⟩
        | false => K ⟨.v (.one (.sc (.int k p))), [], []⟩
      | _, _ => False
    | .min, [_, _], [x, y] => match ev ty S 3 x, ev ty S 3 y with
      | .v (.one (.sc (.int k p))), .v (.one (.sc (.int _ q))) => π.cmp .lss q p fun c => match c with
        | true => K ⟨.v (.one (.sc (.int k q))), [], []⟩
        | false => K ⟨.v (.one (.sc (.int k p))), [], []⟩
      | _, _ => False
    | _, _, _ => False
/-- One operation. -/
def aop (S : AS) (o : Oper) (K : Eff → Prop) : Prop := match o.op with
  | .move x => K ⟨ev ty S o.type x, [], []⟩
  | .assign x => K ⟨ev ty S o.type x, [], []⟩
  | .pick c a b => match ev ty S 4 c with
    | .v (.one (.sc (.bool true))) => K ⟨ev ty S o.type a, [], []⟩
    | .v (.one (.sc (.bool false))) => K ⟨ev ty S o.type b, [], []⟩
    | _ => False
  | .alloc t => bif Nat.ble 1 (ty t).size then anew S o.dst fun d => K ⟨.p d 0 0 0, [(d, .bx (ty t).zero)], []⟩ else False
  | .box t x => gdv S (ev ty S t x) fun v k r => anew S o.dst fun d => K ⟨.p d 0 0 0, k ++ [(d, .bx v.cells)], r⟩
  | .build t ps => match (ty t).kd with
    | .st _ => gdvs ty S (ps.toList.map fun q => (((field? ty t q.1).map (·.2.2)).getD 0, q.2)) fun ds k r =>
      match buildL ty t ((ps.toList.map (·.1)).zip ds) (ty t).zero with
      | some cs => K ⟨.v (.ag cs), k, r⟩
      | none => False
    | _ => False
  | .buildSlice t n ps => match elem? ty t with
    | some e => bif Nat.beq n ps.size && idxOk ps.toList 0 && Nat.ble n 1000 && Nat.ble (ty e).size 1000 then gdvs ty S (ps.toList.map fun q => (e, q.2)) fun ds k r => anew S o.dst fun d =>
        bif (ds.all fun x => Nat.beq x.cells.length (ty e).size) then K ⟨.ow d, k ++ [(d, .ar e (ty e).size (ds.map DV.cells))], r⟩ else False
      else False
    | none => False
  | .load t a => aload π ty S t (ev ty S 0 a) K
  | .store t a x => astore π ty S t (ev ty S 0 a) (ev ty S t x) K
  | .nilCheck x => match ev ty S 0 x with
    | .p s es i off => K ⟨.p s es i off, [], []⟩
    | .pd cs => K ⟨.pd cs, [], []⟩
    | _ => False
  | .binOp op t x y t' => abin π ty t op (ev ty S t x) (ev ty S t' y) K
  | .unOp op t x => match op, ev ty S t x with
    | .not, .v (.one (.sc (.bool true))) => K ⟨.v (.one (.sc (.bool false))), [], []⟩
    | .not, .v (.one (.sc (.bool false))) => K ⟨.v (.one (.sc (.bool true))), [], []⟩
    | .neg, .v (.one (.sc (.int k a))) => π.arith .sub k 0 a fun c => K ⟨.v (.one (.sc (.int k c))), [], []⟩
    | _, _ => False
  | .convert s t x => match (ty t).kd with
    | .int k => match ev ty S s x with
      | .v (.one (.sc (.int _ a))) => bif Nat.ble 1 (ty s).size then π.conv k a fun c => K ⟨.v (.one (.sc (.int k c))), [], []⟩ else False
      | _ => False
    | .str => match elem? ty s with
      | some e => match (ty e).kd with
        | .int .u8 => sumB (ev ty S s x) S fun xs r => π.ofb xs fun s => K ⟨.v (.one (.sc (.string s))), [], r⟩
        | _ => False
      | none => False
    | _ => False
  | .makeSlice t n c => match elem? ty t, asI (ev ty S 3 n), asI (ev ty S 3 c) with
    | some e, some n, some c => anew S o.dst fun d => π.mks (ty e).bytes n c (ty e).zero fun xs => K ⟨.ow d, [(d, .ar e (ty e).size xs)], []⟩
    | _, _, _ => False
  | .slice t x lo hi none => match (ty t).kd with
    | .str => match ev ty S t x with
      | .v (.one (.sc (.string s))) => optI ty S lo fun l => optI ty S hi fun h => π.ssli s l h fun s' => K ⟨.v (.one (.sc (.string s'))), [], []⟩
      | _ => False
    | .slc e => gdv S (ev ty S t x) fun d k r => match d with
      | .one (.sl tg sz xs) => bif Nat.beq sz (ty e).size then optI ty S lo fun l => optI ty S hi fun h => π.sli xs l h fun ys => K ⟨.v (.one (.sl tg sz ys)), k, r⟩ else False
      | _ => False
    | _ => False
  | .fieldAddr t x j => match field? ty t j, ev ty S 0 x with
    | some (off, n, _), .p s es i o => bif Nat.ble 1 n then K ⟨.p s es i (o + off), [], []⟩ else False
    | some (off, n, _), .pd cs => bif Nat.ble 1 n then K ⟨.pd (cs.drop off), [], []⟩ else False
    | _, _ => False
  | .field t x j => match field? ty t j, ev ty S t x with
    | some (off, n, ft), .v (.ag cs) => bif Nat.ble (off + n) cs.length then (match mkV (ty ft).agg ((cs.drop off).take n) with | some d => K ⟨.v d, [], []⟩ | none => False) else False
    | _, _ => False
  | .indexAddr t x i => match elem? ty t, asI (ev ty S 3 i), ev ty S t x with
    | some e, some i, .v (.one (.sl _ sz xs)) => bif Nat.beq sz (ty e).size then π.get xs i fun x => K ⟨.pd x, [], []⟩ else False
    | some e, some i, .ow s => match S.b s with
      | .ar _ es xs => bif Nat.beq es (ty e).size then π.inb xs i fun j => K ⟨.p s es j 0, [], [s]⟩ else False
      | _ => False
    | _, _, _ => False
  | .index t x i => match (ty t).kd, asI (ev ty S 3 i), ev ty S t x with
    | .str, some i, .v (.one (.sc (.string s))) => π.sidx s i fun c => K ⟨.v (.one (.sc (.int .u8 c))), [], []⟩
    | _, _, _ => False
  | .extract x j => match ev ty S 0 x with
    | .tp ds => match nth ds j with | some d => K ⟨.v d, [], []⟩ | none => False
    | _ => False
  | .call c => acall π ty S o c K
  | _ => False

/-- What every operation waits for, as bits. -/
def maskOf (acc : List Nat) : List Edge → Nat
  | [] => 0
  | e :: r => bif Region.binds .any e then Nat.lor (Nat.lor (2 ^ e.on) ((nth acc e.on).getD 0)) (maskOf acc r) else maskOf acc r
def bitsGo : List Oper → List Nat → List Nat
  | [], acc => acc
  | o :: r, acc => bitsGo r (acc ++ [maskOf acc o.after.toList])
def disj : List Nat → List Nat → Bool
  | [], _ => true
  | a :: r, l => !(l.any fun b => Nat.beq a b) && disj r l
abbrev Fp := Nat × List Nat × List Nat
def safe1 (bits : List Nat) (i : Nat) (r w : List Nat) : List Fp → Bool
  | [] => true
  | (j, r', w') :: l => ((disj w r' && disj w w' && disj r w') || ((nth bits i).getD 0).testBit j) && safe1 bits i r w l
/-- The latest first. -/
def safe (bits : List Nat) : List Fp → Bool
  | [] => true
  | (i, r, w) :: l => safe1 bits i r w l && safe bits l
/-- Is the operation wanted? -/
def awant (ops : Array Oper) (S : AS) (o : Oper) (K : Bool → Prop) : Prop := match o.guard with
  | none => K true
  | some (j, w) => match nth ops.toList j with
    | some oj => match oj.dst with
      | some d => match S.t d with
        | .v (.one (.sc (.bool b))) => match b, w with
          | true, true => K true
          | false, false => K true
          | true, false => K false
          | false, true => K false
        | .tp [] => K false
        | _ => False
      | none => False
    | none => False
def addFp (i : Nat) (E : Eff) (l : List Fp) : List Fp := match E.rd, E.bl with
  | [], [] => l
  | r, b => (i, r, b.map (·.1)) :: l
/-- A region, in the text's order. -/
def areg (ops : Array Oper) (draw : Bool) : List Oper → Nat → List Fp → AS → (AS → Prop) → Prop
  | [], _, l, S, K => match draw with
    | false => K S
    | true => π.chk (safe (bitsGo ops.toList []) l) (K S)
  | o :: r, i, l, S, K => awant ops S o fun w => match w with
    | true => aop π ty S o fun E => areg ops draw r (i + 1) (addFp i E l) (S.app o.dst E) K
    | false => areg ops draw r (i + 1) l (S.app o.dst ⟨.tp [], [], []⟩) K

def acode : Code → (Exit → AS → Prop) → AS → Prop
  | .skip, K, S => K .normal S
  | .region _ ops draw, K, S => areg π ty ops draw ops.toList 0 [] S (K .normal)
  | .seq a b, K, S => acode a (fun e S' => match e with | .normal => acode b K S' | e => K e S') S
  | .cond c a b, K, S => match ev ty S 4 c with
    | .v (.one (.sc (.bool true))) => acode a K S
    | .v (.one (.sc (.bool false))) => acode b K S
    | _ => False
  | .block id c, K, S => acode c (fun e S' => match e with | .exit j => (bif Nat.beq j id then K .normal S' else K (.exit j) S') | e => K e S') S
  | .loop c, K, S => π.loop (fun K' S' => acode c K' S') K S
  | .exit id, K, S => K (.exit id) S
  | .ret, K, S => K .ret S
  | .label _, K, S => K .normal S
  | _, _, _ => False
end

/-- The results at the end. -/
def resOne (ty : Nat → TI) (S : AS) : ResultVar → (DV → Prop) → Prop
  | .tmp t, K => gdv S (S.t t) fun d _ _ => K d
  | .cell a t, K => match S.t a with
    | .p s _ i off => match S.b s with
      | .bx cs => bif Nat.beq i 0 && Nat.beq off 0 && Nat.beq cs.length (ty t).size && (ty t).agg && Nat.ble 1 (ty t).size then K (.ag cs) else False
      | _ => False
    | _ => False
def resAll (ty : Nat → TI) (S : AS) : List ResultVar → (List DV → Prop) → Prop
  | [], K => K []
  | x :: r, K => resOne ty S x fun d => resAll ty S r fun ds => K (d :: ds)
def argT : List DV → Nat → AT
  | [], _ => .u
  | d :: _, 0 => .v d
  | _ :: r, n + 1 => argT r n
def start (args : List DV) : AS := { t := fun k => argT args k, b := fun _ => .no }
def abodyC (π : Pi) (ty : Nat → TI) (c : Code) (rs : List ResultVar) (args : List DV) (Q : List DV → Prop) : Prop := acode π ty c (fun e S => match e with
  | .normal => resAll ty S rs Q
  | .ret => resAll ty S rs Q
  | _ => False) (start args)
def abody (π : Pi) (ty : Nat → TI) (fn : Func) (args : List DV) (Q : List DV → Prop) : Prop := match fn.body with
  | some c => abodyC π ty c fn.results.toList args Q
  | none => False

end Go.Proofs.YtpmlocilhhjifaaGreat.Eng
