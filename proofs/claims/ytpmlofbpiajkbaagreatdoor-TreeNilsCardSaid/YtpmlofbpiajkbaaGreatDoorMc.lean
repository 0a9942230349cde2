/- A verified interpreter: the interpreter. -/
import Derived.Test.YtpmlofbpiajkbaaGreatDoorMb
set_option linter.unusedVariables false
namespace Go.Proofs.YtpmlofbpiajkbaaGreatDoor.M2
open Go
noncomputable section

section
def isAg (und : Nat → Option TypeDesc) (inf : Nat → Option TypeInfo) (t : TypeId) : Option Bool :=
  match und t with
  | some (.struct _) => some true
  | some (.array _ _) => some true
  | some _ => some false
  | none => none
def szOf (und : Nat → Option TypeDesc) (inf : Nat → Option TypeInfo) (t : TypeId) : Option Nat :=
  match inf t with
  | some i => some i.size
  | none => none
def byOf (und : Nat → Option TypeDesc) (inf : Nat → Option TypeInfo) (t : TypeId) : Option Nat :=
  match inf t with
  | some i => some i.bytes
  | none => none
def zeroA (und : Nat → Option TypeDesc) (inf : Nat → Option TypeInfo) (t : TypeId) : Option AV :=
  match inf t with
  | some i => match i.zero with
    | some z => ofVal z
    | none => none
  | none => none
/-- A part of an aggregate. -/
def partA (und : Nat → Option TypeDesc) (inf : Nat → Option TypeInfo) (t : TypeId) (cs : List AV) (off : Nat) : Option AV :=
  match isAg und inf t, szOf und inf t with
  | some true, some n => some (.agg ((cs.drop off).take n))
  | some false, _ => cs[off]?
  | _, _ => none
def ev (tm : T AV) : Operand → Option AV
  | .tmp t => tm.get t
  | .const v => ofVal v
  | .global _ => none
  | .func f => some (.fn f [] [])
def evs (tm : T AV) : List Operand → Option (List AV)
  | [] => some []
  | o :: r => match ev tm o with
    | none => none
    | some x => match evs tm r with
      | none => none
      | some l => some (x :: l)
def cellsA (ah : AH) (b : Nat) : Option (List AV) :=
  match ah.get b with
  | some (.cells c) => some c
  | _ => none
/-- So many cells from there on. -/
def seg (c : List AV) (o n : Nat) : Option (List AV) :=
  cnd (Nat.beq ((c.drop o).take n).length n) (some ((c.drop o).take n)) none
def segA (ah : AH) (b o n : Nat) : Option (List AV) :=
  match cellsA ah b with
  | some c => seg c o n
  | none => none
def loadA (und : Nat → Option TypeDesc) (inf : Nat → Option TypeInfo) (ah : AH) (t : TypeId) : AV → Option AV
  | .ptr b o => match isAg und inf t with
    | some true => match szOf und inf t with
      | some n => match segA ah b o n with
        | some l => some (.agg l)
        | none => none
      | none => none
    | some false => match cellsA ah b with
      | some c => c[o]?
      | none => none
    | none => none
  | _ => none
/-- Cells laid over a row. -/
def ovr : Nat → List AV → List AV → List AV
  | 0, vs, c => vs ++ c.drop vs.length
  | _ + 1, vs, [] => vs
  | o + 1, vs, x :: c => x :: ovr o vs c
def fits (c : List AV) (o n : Nat) : Bool :=
  cnd (Nat.beq n 0) true (match c.drop (o + n - 1) with | [] => false | _ :: _ => true)
def putA (ah : AH) (b o : Nat) (vs : List AV) : Option AH :=
  match cellsA ah b with
  | some c => cnd (fits c o vs.length) (some (ah.set b (.cells (ovr o vs c)))) none
  | none => none
def storeA (und : Nat → Option TypeDesc) (inf : Nat → Option TypeInfo) (ah : AH) (t : TypeId) (x v : AV) : Option AH :=
  match x with
  | .ptr b o => match szOf und inf t with
    | some n => cnd (Nat.beq v.cells.length n && v.okc) (putA ah b o v.cells) none
    | none => none
  | _ => none
def asI : AV → Option Int
  | .int _ n => some n
  | _ => none
def fillA (place : Nat → Option (Nat × Nat)) (cells : List AV) : List (Nat × AV) → Option (List AV)
  | [] => some cells
  | (i, v) :: rest =>
    match place i with
    | none => none
    | some (off, size) =>
      cnd (Nat.beq v.cells.length size && v.okc && !Nat.beq size 0 && fits cells off v.cells.length) (fillA place (ovr off v.cells cells) rest) <| none
def repA (z : List AV) (n : Nat) : Option (List AV) :=
  match z with
  | [x] => some (List.replicate n x)
  | z => cnd (Nat.beq z.length 0) ((cnd (Nat.beq n 0) (some []) <| none)) <| cnd (Nat.beq (n % z.length) 0) (some (List.replicate (n / z.length) z).flatten) <| none
def placesA (und : Nat → Option TypeDesc) (inf : Nat → Option TypeInfo) : List Field → Option (List (Nat × Nat))
  | [] => some []
  | f :: r => match szOf und inf f.type with
    | none => none
    | some n => match placesA und inf r with
      | none => none
      | some l => some ((f.offset, n) :: l)
def buildA2 (und : Nat → Option TypeDesc) (inf : Nat → Option TypeInfo) (t : TypeId) (z : AV) (parts : List (Nat × AV)) : Option (List AV) :=
  match und t with
  | some (.struct fs) => match placesA und inf fs.toList with
    | none => none
    | some pl => fillA (fun i => pl[i]?) z.cells parts
  | some (.array _ e) => match szOf und inf e with
    | none => none
    | some n => fillA (fun i => some (i * n, n)) z.cells parts
  | _ => none
def buildA (und : Nat → Option TypeDesc) (inf : Nat → Option TypeInfo) (t : TypeId) (parts : List (Nat × AV)) : Option AV :=
  match zeroA und inf t with
  | none => none
  | some z => cnd z.okc (match buildA2 und inf t z parts with
    | some l => some (.agg l)
    | none => none) none
def buildSliceA (und : Nat → Option TypeDesc) (inf : Nat → Option TypeInfo) (ah : AH) (t : TypeId) (len : Nat) (parts : List (Nat × AV)) : Option (AV × AH) :=
  match und t with
  | some (.slice e) => match szOf und inf e, zeroA und inf e with
    | some n, some z => cnd (Nat.ble (len * n) 16777216 && z.okc && Nat.beq z.cells.length n && !Nat.beq n 0) (match repA z.cells (len * n) with
        | some c0 => match fillA (fun i => some (i * n, n)) c0 parts with
          | some c => some (.slice ah.next 0 len (.known len), ah.new (.cells c))
          | none => none
        | none => none) <| none
    | _, _ => none
  | _ => none
def fieldAddrA (und : Nat → Option TypeDesc) (inf : Nat → Option TypeInfo) (s : TypeId) (x : AV) (f : Nat) : Option AV :=
  match und s, x with
  | some (.struct fs), .ptr b o => match fs.toList[f]? with
    | some fd => match szOf und inf fd.type with
      | some n => cnd (Nat.beq n 0) (none) <| some (.ptr b (o + fd.offset))
      | none => none
    | none => none
  | _, _ => none
def fieldA (und : Nat → Option TypeDesc) (inf : Nat → Option TypeInfo) (s : TypeId) (x : AV) (f : Nat) : Option AV :=
  match und s, x with
  | some (.struct fs), .agg cs => match fs.toList[f]? with
    | some fd => partA und inf fd.type cs fd.offset
    | none => none
  | _, _ => none
def indexAddrA (und : Nat → Option TypeDesc) (inf : Nat → Option TypeInfo) (t : TypeId) (x i : AV) : Option AV :=
  match asI i with
  | none => none
  | some n => match und t, x with
    | some (.array len e), .ptr b o => match szOf und inf e with
      | some s => cnd (decide (0 ≤ n) && decide (n < len)) (some (.ptr b (o + n.toNat * s))) <| none
      | none => none
    | some (.slice e), .slice b o len _ => match szOf und inf e with
      | some s => cnd (decide (0 ≤ n) && decide (n < len)) (some (.ptr b (o + n.toNat * s))) <| none
      | none => none
    | some (.slice e), .slt b o _ _ lo _ => match szOf und inf e with
      | some s => cnd (decide (0 ≤ n) && decide (n < lo)) (some (.ptr b (o + n.toNat * s))) <| none
      | none => none
    | _, _ => none
def indexA (und : Nat → Option TypeDesc) (inf : Nat → Option TypeInfo) (t : TypeId) (x i : AV) : Option AV :=
  match asI i with
  | none => none
  | some n => match und t, x with
    | some (.array len e), .agg cs => match szOf und inf e with
      | some s => cnd (decide (0 ≤ n) && decide (n < len)) (partA und inf e cs (n.toNat * s)) <| none
      | none => none
    | some .string, .str s => cnd (decide (0 ≤ n)) ((match s[n.toNat]? with | some c => some (.int .u8 c) | none => none)) <| none
    | _, _ => none
/-- low ≤ high ≤ max: what slicing makes of its bounds. -/
def boundA (v : Option AV) (dflt top : Nat) : Option Nat :=
  match v with
  | none => some dflt
  | some x => match asI x with
    | some n => cnd (decide (0 ≤ n) && decide (n ≤ top)) (some n.toNat) <| none
    | none => none
def boundsA (len cap : Nat) (lo hi mx : Option AV) : Option (Nat × Nat × Nat) :=
  match mx, hi with
  | some _, none => none
  | _, _ => match boundA mx cap cap with
    | none => none
    | some m => match boundA hi len m with
      | none => none
      | some h => match boundA lo 0 h with
        | none => none
        | some l => some (l, h, m)
def sliceA (und : Nat → Option TypeDesc) (inf : Nat → Option TypeInfo) (t : TypeId) (x : AV) (lo hi mx : Option AV) : Option AV :=
  match und t, x with
  | some .string, .str s => match mx with
    | some _ => none
    | none => match boundsA s.length s.length lo hi none with
      | some (l, h, _) => some (.str ((s.take h).drop l))
      | none => none
  | some (.slice e), .nils => match szOf und inf e, boundsA 0 0 lo hi mx with
    | some _, some _ => some .nils
    | _, _ => none
  | some (.slice e), .slice b o len (.known cap) => match szOf und inf e, boundsA len cap lo hi mx with
    | some s, some (l, h, m) => cnd (Nat.ble h m) (some (.slice b (cnd (Nat.beq m l) (o) <| o + l * s) (h - l) (.known (m - l)))) none
    | _, _ => none
  | some (.slice e), .slice b o len (.own sz) => match szOf und inf e, boundsA len len lo hi mx with
    | some s, some (l, h, m) => cnd (Nat.beq s sz) ((match mx with
        | some _ => cnd (Nat.beq l m) (some .empty) <| some (.slice b (o + l * s) (h - l) (.known (m - l)))
        | none => cnd (Nat.beq l len) (some .empty) <| some (.slice b (o + l * s) (h - l) (.own sz)))) <| none
    | _, _ => none
  | some (.pointer arr), .ptr b o => match und arr with
    | some (.array n e) => match szOf und inf e, boundsA n n lo hi mx with
      | some s, some (l, h, m) => some (.slice b (cnd (Nat.beq m l) (o) <| o + l * s) (h - l) (.known (m - l)))
      | _, _ => none
    | _ => none
  | some (.array n e), .ptr b o => match szOf und inf e, boundsA n n lo hi mx with
    | some s, some (l, h, m) => some (.slice b (cnd (Nat.beq m l) (o) <| o + l * s) (h - l) (.known (m - l)))
    | _, _ => none
  | _, _ => none
def cmpA (op : BinOp) (a b : Int) : Option AV :=
  match op with
  | .eql => some (.bool (a == b))
  | .neq => some (.bool (a != b))
  | .lss => some (.bool (decide (a < b)))
  | .leq => some (.bool (decide (a ≤ b)))
  | .gtr => some (.bool (decide (a > b)))
  | .geq => some (.bool (decide (a ≥ b)))
  | _ => none
def natsEq : List Nat → List Nat → Bool
  | [], [] => true
  | a :: l, b :: r => cnd (Nat.beq a b) (natsEq l r) <| false
  | _, _ => false
def constOp : Operand → Bool
  | .const _ => true
  | _ => false
def eqNilA (und : Nat → Option TypeDesc) (inf : Nat → Option TypeInfo) (t : TypeId) (xo yo : Operand) (x y : AV) : Option Bool :=
  match und t, x, y with
  | some (.pointer _), .nilp, .nilp => some true
  | some (.pointer _), .ptr _ _, .nilp => some false
  | some (.slice _), .nils, .nils => some true
  | some (.slice _), .empty, .nils => some false
  | some (.slice _), .slice _ _ _ _, .nils => some false
  | some (.interface _), .nili, .nili => cnd (constOp xo || constOp yo) (some true) none
  | some (.interface _), .iface _ _, .nili => some false
  | some .bool, .bool a, .bool b => some (a == b)
  | _, _, _ => none
def bitsA (op : BinOp) (k : IntKind) (x y : Int) : Option AV :=
  let a := BitVec.ofInt k.bits x
  let b := BitVec.ofInt k.bits y
  match op with
  | .and => some (.int k (k.wrap (a &&& b).toNat))
  | .or => some (.int k (k.wrap (a ||| b).toNat))
  | .xor => some (.int k (k.wrap (a ^^^ b).toNat))
  | .andNot => some (.int k (k.wrap (a &&& ~~~b).toNat))
  | _ => none
def arithT (op : BinOp) (k : IntKind) : Option AV :=
  match op with
  | .add | .mul => some (.anyi k)
  | _ => none
def kEq (k k2 : IntKind) (r : Option AV) : Option AV := cnd (decide (k = k2)) r none
/-- So it is, or so it isn't; else nothing is said. -/
def tri (a b : Bool) : Option AV := cnd a (some (.bool true)) (cnd b (some (.bool false)) none)
/-- A number that lies between bounds, and one that is known. -/
def tokL (op : BinOp) (lo hi n : Int) : Option AV :=
  match op with
  | .lss => tri (decide (hi < n)) (decide (n ≤ lo))
  | .leq => tri (decide (hi ≤ n)) (decide (n < lo))
  | .gtr => tri (decide (n < lo)) (decide (hi ≤ n))
  | .geq => tri (decide (n ≤ lo)) (decide (hi < n))
  | _ => none
def tokR (op : BinOp) (n lo hi : Int) : Option AV :=
  match op with
  | .lss => tri (decide (n < lo)) (decide (hi ≤ n))
  | .leq => tri (decide (n ≤ lo)) (decide (hi < n))
  | .gtr => tri (decide (hi < n)) (decide (n ≤ lo))
  | .geq => tri (decide (hi ≤ n)) (decide (n < lo))
  | _ => none
/-- So much more. -/
def tokP (k : IntKind) (neg : Bool) (b : Nat) (c lo hi n : Int) : Option AV :=
  match k with
  | .i64 => cnd (decide (-4611686018427387904 ≤ lo + n) && decide (hi + n ≤ 4611686018427387904)) (some (.tok .i64 neg b (c + n) (lo + n) (hi + n))) none
  | _ => none
def tokLI (op : BinOp) (k : IntKind) (neg : Bool) (b : Nat) (c lo hi n : Int) : Option AV :=
  match op with
  | .add => tokP k neg b c lo hi n
  | op => tokL op lo hi n
def tokRI (op : BinOp) (k : IntKind) (neg : Bool) (b : Nat) (c lo hi n : Int) : Option AV :=
  match op with
  | .add => tokP k neg b c lo hi n
  | op => tokR op n lo hi
def tokTT (op : BinOp) (same : Bool) : Option AV :=
  match op with
  | .eql => cnd same (some (.bool true)) none
  | .neq => cnd same (some (.bool false)) none
  | _ => none
/-- Numbers with names. -/
def tokA (op : BinOp) (x y : AV) : Option AV :=
  match x, y with
  | .tok k neg b c _ _, .tok k2 neg2 b2 c2 _ _ => kEq k k2 (tokTT op (Nat.beq b b2 && (decide (c = c2) && (neg == neg2))))
  | .int k n, .tok k2 neg b c lo hi => kEq k k2 (tokRI op k neg b c lo hi n)
  | .tok k neg b c lo hi, .int k2 n => kEq k k2 (tokLI op k neg b c lo hi n)
  | .int k _, .anyi k2 => kEq k k2 (arithT op k)
  | _, _ => none
def nilEqA (und : Nat → Option TypeDesc) (inf : Nat → Option TypeInfo) (op : BinOp) (t : TypeId) (xo yo : Operand) (x y : AV) : Option AV :=
  match op with
  | .eql => (eqNilA und inf t xo yo x y).map .bool
  | .neq => (eqNilA und inf t xo yo x y).map fun b => .bool (!b)
  | _ => none
def binA (und : Nat → Option TypeDesc) (inf : Nat → Option TypeInfo) (op : BinOp) (t : TypeId) (xo yo : Operand) (x y : AV) : Option AV :=
  match x, y with
  | .int k a, .int k2 b =>
    match op with
    | .shl => cnd (decide (b < 0)) (none) <| some (.int k (k.wrap (a * 2 ^ (min b.toNat k.bits))))
    | .shr => cnd (decide (b < 0)) (none) <| some (.int k (a.fdiv (2 ^ (min b.toNat k.bits))))
    | _ => cnd (decide (k = k2)) ((match op with
        | .add => some (.int k (k.wrap (a + b)))
        | .sub => some (.int k (k.wrap (a - b)))
        | .mul => some (.int k (k.wrap (a * b)))
        | .quo => cnd (decide (b = 0)) (none) <| some (.int k (k.wrap (a.tdiv b)))
        | .rem => cnd (decide (b = 0)) (none) <| some (.int k (a.tmod b))
        | .and | .or | .xor | .andNot => bitsA op k a b
        | _ => cmpA op a b)) <| none
  | .str a, .str b =>
    match op with
    | .eql => some (.bool (natsEq a b))
    | .neq => some (.bool (!natsEq a b))
    | _ => none
  | x, y => match tokA op x y with
    | some v => some v
    | none => nilEqA und inf op t xo yo x y
def unA (op : UnOp) (x : AV) : Option AV :=
  match op, x with
  | .neg, .int k n => some (.int k (k.wrap (0 - n)))
  | .xor, .int k n => bitsA .xor k (if k.signed then -1 else k.max) n
  | .not, .bool b => some (.bool !b)
  | _, _ => none
def bytesA : List AV → Option (List Nat)
  | [] => some []
  | .int .u8 n :: r => match bytesA r with
    | some l => some (n.toNat % 256 :: l)
    | none => none
  | _ => none
def convA (und : Nat → Option TypeDesc) (inf : Nat → Option TypeInfo) (ah : AH) (src dst : TypeId) (x : AV) : Option (AV × AH) :=
  match und src, und dst, x with
  | some _, some (.int k), .int _ n => some (.int k (k.wrap n), ah)
  | some _, some .string, .str s => some (.str s, ah)
  | some .string, some (.slice e), .str s => match und e with
    | some (.int .u8) => some (.slice ah.next 0 s.length (.own 1), ah.new (.cells (s.map fun c : Nat => .int .u8 (c : Int))))
    | _ => none
  | some (.slice _), some (.slice e), .slice b o n c => match und e with
    | some (.int .u8) => match cellsA ah b with
      | some _ => cnd (Nat.beq src dst) (some (.slice b o n c, ah)) <| none
      | none => none
    | _ => none
  | some (.slice e), some .string, x => match und e with
    | some (.int .u8) => match x with
      | .nils => some (.str [], ah)
      | .empty => some (.str [], ah)
      | .slice b o n _ => match segA ah b o n with
        | some l => match bytesA l with
          | some s => some (.str s, ah)
          | none => none
        | none => none
      | _ => none
    | _ => none
  | _, _, _ => none
def lenA (ah : AH) : AV → Option Nat
  | .nils => some 0
  | .empty => some 0
  | .slice _ _ n _ => some n
  | .str s => some s.length
  | _ => none
/-- The cells of a slice or a string, so many elements of so many cells. -/
def firstA (ah : AH) (sz n : Nat) : AV → Option (List AV)
  | .nils => some []
  | .empty => cnd (Nat.beq n 0) (some []) none
  | .slice b o _ _ => segA ah b o (n * sz)
  | .str s => cnd (Nat.beq sz 1 && Nat.beq n s.length) (some (s.map fun c : Nat => .int .u8 (c : Int))) none
  | _ => none
def srcOk : Option TypeDesc → Bool
  | some (.slice _) => true
  | some .string => true
  | _ => false
/-- n elements (new: their cells) behind a slice's. -/
def appendB (ah : AH) (sz by_ n : Nat) (new : List AV) (s : AV) : Option (AV × AH) :=
  match s with
  | .nils => cnd (Nat.beq n 0) (some (.nils, ah)) (cnd (Nat.ble (n * by_) 140737488355328) (some (.slice ah.next 0 n (.own sz), ah.new (.cells new))) none)
  | .slice b o len (.own sz2) => match cellsA ah b with
    | some c => cnd (Nat.beq sz sz2 && Nat.beq o 0 && Nat.beq (len * sz) c.length && Nat.ble ((len + n) * by_) 140737488355328) (cnd (Nat.beq n 0) (some (.slice b o len (.own sz2), ah)) (some (.slice ah.next 0 (len + n) (.own sz), (ah.kill b).new (.cells (c ++ new))))) none
    | none => none
  | .slice b o len (.known cap) => cnd (Nat.ble (len + n) cap) (cnd (Nat.beq n 0) (some (.slice b o len (.known cap), ah)) none)
      (match segA ah b o (len * sz) with
      | some old => cnd (Nat.ble ((len + n) * by_) 140737488355328) (some (.slice ah.next 0 (len + n) (.own sz), ah.new (.cells (old ++ new)))) none
      | none => none)
  | _ => none
def appendA (und : Nat → Option TypeDesc) (inf : Nat → Option TypeInfo) (ah : AH) (ts : List TypeId) (s x : AV) : Option (AV × AH) :=
  match ts with
  | [t, tx] => match und t with
    | some (.slice e) => match szOf und inf e, byOf und inf e, zeroA und inf e, lenA ah x with
      | some sz, some by_, some z, some n => match firstA ah sz n x with
        | some new => cnd (srcOk (und tx) && !Nat.beq sz 0 && !Nat.beq by_ 0 && z.okc && Nat.beq z.cells.length sz) (appendB ah sz by_ n new s) none
        | none => none
      | _, _, _, _ => none
    | _ => none
  | _ => none
def copyA (und : Nat → Option TypeDesc) (inf : Nat → Option TypeInfo) (ah : AH) (ts : List TypeId) (d x : AV) : Option (AV × AH) :=
  match ts with
  | t :: _ => match und t with
    | some (.slice e) => match szOf und inf e, lenA ah d, lenA ah x with
      | some sz, some dn, some xn => match firstA ah sz (min xn dn) x with
        | some cs => match d with
          | .nils => some (.int .i64 0, ah)
          | .empty => some (.int .i64 0, ah)
          | .slice b o _ _ => match putA ah b o cs with
            | some ah2 => some (.int .i64 (min xn dn : Nat), ah2)
            | none => none
          | _ => none
        | none => none
      | _, _, _ => none
    | _ => none
  | _ => none
def lenOpA (und : Nat → Option TypeDesc) (inf : Nat → Option TypeInfo) (ah : AH) (ts : List TypeId) (x : AV) : Option AV :=
  match ts with
  | [t] => match und t, x with
    | some .string, .str s => some (.int .i64 s.length)
    | some (.array n _), _ => some (.int .i64 n)
    | some (.slice _), .nils => some (.int .i64 0)
    | some (.slice _), .empty => some (.int .i64 0)
    | some (.slice _), .slice _ _ n _ => some (.int .i64 n)
    | some (.slice _), .slt _ _ t c lo hi => some (.tok .i64 false t c lo hi)
    | some (.map _ _), .nilm => some (.int .i64 0)
    | some (.map _ _), .map b => match ah.get b with
      | some (.map es _) => some (.int .i64 es.length)
      | _ => none
    | _, _ => none
  | _ => none
def makeIntA (und : Nat → Option TypeDesc) (inf : Nat → Option TypeInfo) (ah : AH) (t : TypeId) (l c : AV) : Option (AV × AH) :=
  match und t, asI l, asI c with
  | some (.slice e), some l, some c => match szOf und inf e, byOf und inf e, zeroA und inf e with
    | some sz, some by_, some z => cnd (decide (0 ≤ l) && decide (l ≤ c) && decide (c * by_ ≤ 140737488355328) && Nat.beq z.cells.length sz && !Nat.beq by_ 0 && !Nat.beq sz 0 && z.okc) ((match repA z.cells (c.toNat * sz) with
        | some cs => some (.slice ah.next 0 l.toNat (.known c.toNat), ah.new (.cells cs))
        | none => none)) <| none
    | _, _, _ => none
  | _, _, _ => none
def makeTokA (und : Nat → Option TypeDesc) (inf : Nat → Option TypeInfo) (ah : AH) (t : TypeId) (b : Nat) (cc lo hi : Int) : Option (AV × AH) :=
  match und t with
  | some (.slice e) => match szOf und inf e, byOf und inf e, zeroA und inf e with
    | some sz, some by_, some z => cnd (decide (0 ≤ lo) && decide (hi * by_ ≤ 140737488355328) && Nat.beq z.cells.length sz && !Nat.beq by_ 0 && !Nat.beq sz 0 && z.okc) (match repA z.cells (lo.toNat * sz) with
        | some cs => some (.slt ah.next 0 b cc lo.toNat hi.toNat, ah.new (.cells cs))
        | none => none) none
    | _, _, _ => none
  | _ => none
def makeSliceA (und : Nat → Option TypeDesc) (inf : Nat → Option TypeInfo) (ah : AH) (t : TypeId) (l c : AV) : Option (AV × AH) :=
  match l, c with
  | .tok _ false b cc lo hi, .tok _ false b2 cc2 _ _ => cnd (Nat.beq b b2 && decide (cc = cc2)) (makeTokA und inf ah t b cc lo hi) none
  | l, c => makeIntA und inf ah t l c
/-- Keys: are they one? of ints, strings and structs of these -/
def cellEq : AV → AV → Option Bool
  | .int k a, .int k2 b => cnd (decide (k = k2)) (some (a == b)) <| none
  | .str a, .str b => some (natsEq a b)
  | _, _ => none
def cellsEq : List AV → List AV → Option Bool
  | [], [] => some true
  | x :: l, y :: r => match cellEq x y with
    | some true => cellsEq l r
    | some false => some false
    | none => none
  | _, _ => none
def keyEq : AV → AV → Option Bool
  | .agg a, .agg b => cellsEq a b
  | x, y => cellEq x y
def findA (k : AV) : List (AV × AV × Nat) → Nat → Option (Option (Nat × AV))
  | [], _ => some none
  | (k2, v, _) :: r, i => match keyEq k k2 with
    | some true => some (some (i, v))
    | some false => findA k r (i + 1)
    | none => none
/-- A key's cell, of its type. -/
def cellIs : Option TypeDesc → AV → Bool
  | some (.int _), .int _ _ => true
  | some .string, .str _ => true
  | _, _ => false
def cellIs2 : Option TypeDesc → AV → Bool
  | some (.int .i64), .int _ _ => true
  | some .string, .str _ => true
  | _, _ => false
def fieldsK (und : Nat → Option TypeDesc) (inf : Nat → Option TypeInfo) : Nat → List Field → List AV → Bool
  | _, [], [] => true
  | i, f :: r, c :: cs => cnd (cellIs2 (und f.type) c && Nat.beq f.offset i && decide (f.name ≠ "_")) (fieldsK und inf (i + 1) r cs) false
  | _, _, _ => false
/-- The struct type whose values are keys here. -/
def kOk (t : TypeId) : Bool := Nat.beq t 280
/-- The keys that are known: ints, strings, or structs of these. -/
def keyIs (und : Nat → Option TypeDesc) (inf : Nat → Option TypeInfo) (kt : TypeId) (k : AV) : Bool :=
  match und kt, k with
  | some (.struct fs), .agg cs => cnd (kOk kt) (fieldsK und inf 0 fs.toList cs) false
  | d, k => cellIs d k
def entriesA (ah : AH) : AV → Option (List (AV × AV × Nat))
  | .nilm => some []
  | .map b => match ah.get b with
    | some (.map es _) => some es
    | _ => none
  | _ => none
def lookR (z : AV) (ok : Bool) : Option (Option (Nat × AV)) → Option AV
  | some (some (_, v)) => some (cnd (ok) (.tup [v, .bool true]) <| v)
  | some none => some (cnd (ok) (.tup [z, .bool false]) <| z)
  | none => none
def lookupA (und : Nat → Option TypeDesc) (inf : Nat → Option TypeInfo) (ah : AH) (t : TypeId) (x i : AV) (ok : Bool) : Option AV :=
  match und t with
  | some (.map kt e) => cnd (keyIs und inf kt i) (match zeroA und inf e, entriesA ah x with
      | some z, some es => lookR z ok (findA i es 0)
      | _, _ => none) none
  | _ => none
def updE (i v : AV) (j : Nat) (es : List (AV × AV × Nat)) : Option (List (AV × AV × Nat)) :=
  match es[j]? with
  | some (_, _, bo) => some (es.set j (i, v, bo))
  | none => none
def updA (ah : AH) (b : Nat) (i v : AV) (es : List (AV × AV × Nat)) (clock : Nat) : Option (Option (Nat × AV)) → Option AH
  | some (some (j, _)) => match updE i v j es with
    | some es2 => some (ah.set b (.map es2 clock))
    | none => none
  | some none => some (ah.set b (.map (es ++ [(i, v, clock)]) (clock + 1)))
  | none => none
def mapUpdateA (und : Nat → Option TypeDesc) (inf : Nat → Option TypeInfo) (ah : AH) (t : TypeId) (x i v : AV) : Option AH :=
  match und t, x with
  | some (.map kt e), .map b => cnd (keyIs und inf kt i) (match ah.get b with
      | some (.map es clock) => updA ah b i v es clock (findA i es 0)
      | _ => none) none
  | _, _ => none
def rangeA (und : Nat → Option TypeDesc) (inf : Nat → Option TypeInfo) (ah : AH) (t : TypeId) (x : AV) : Option (AV × AH) :=
  match und t, x with
  | some .string, .str s => some (.ptr ah.next 0, ah.new (.strIter s 0))
  | some (.map _ _), .map b => match ah.get b with
    | some (.map _ clock) => some (.ptr ah.next 0, ah.new (.mapIter b clock [] clock))
    | _ => none
  | _, _ => none
def nextA (ah : AH) (it : AV) (isStr : Bool) : Option (AV × AH) :=
  match it with
  | .ptr b 0 => match ah.get b, isStr with
    | some (.strIter s pos), true => match s[pos]? with
      | none => some (.tup [.bool false], ah)
      | some c => cnd (Nat.blt c 128) (some (.tup [.bool true, .int .i64 pos, .int .i32 c], ah.set b (.strIter s (pos + 1)))) <| none
    | some (.mapIter m since seen last), false => match ah.get m with
      | some (.map [(k, v, bo)] clock) => cnd (decide (bo < since)) ((cnd (seen.isEmpty) (some (.tup [.bool true, k, v], ah.set b (.mapIter m since [bo] clock))) <| cnd (seen.contains bo && decide (bo < last)) (some (.tup [.bool false], ah)) <| none)) <| none
      | some (.map [] clock) => cnd (seen.isEmpty) (some (.tup [.bool false], ah)) <| none
      | _ => none
    | _, _ => none
  | _ => none
def entryA (ah : AH) (it : AV) : Option AV :=
  match it with
  | .ptr b 0 => match ah.get b with
    | some (.mapIter m since [st] last) => match ah.get m with
      | some (.map [(k, v, bo)] clock) => cnd (Nat.beq clock last && Nat.beq bo st) (some (.tup [k, v])) <| none
      | _ => none
    | _ => none
  | _ => none
def assertA (und : Nat → Option TypeDesc) (inf : Nat → Option TypeInfo) (x : AV) (t : TypeId) (ok : Bool) : Option AV :=
  match und t, x with
  | some (.interface _), _ => none
  | some _, .iface u v => cnd (Nat.beq u t) (some (cnd (ok) (.tup [v, .bool true]) <| v)) <| cnd (ok) ((match zeroA und inf t with | some z => some (.tup [z, .bool false]) | none => none)) <| none
  | some _, .nili => cnd (ok) ((match zeroA und inf t with | some z => some (.tup [z, .bool false]) | none => none)) <| none
  | _, _ => none
end

/-! ## Operations -/
inductive ADef where
  | call (f : Nat) (args cap : List AV)
  | collected (b : Nat)
inductive ORes where
  | val (v : AV) (ah : AH)
  | skip (ah : AH)
  | call (f : Nat) (args : List AV)
  | yield (l : Nat) (args : List AV)
  | defer (d : ADef)
def oval (ah : AH) : Option AV → Option ORes
  | some v => some (.val v ah)
  | none => none
def oval2 : Option (AV × AH) → Option ORes
  | some (v, ah) => some (.val v ah)
  | none => none
def oskip : Option AH → Option ORes
  | some ah => some (.skip ah)
  | none => none
def evO (tm : T AV) : Option Operand → Option (Option AV)
  | none => some none
  | some o => match ev tm o with
    | some x => some (some x)
    | none => none
def evParts (tm : T AV) : List (Nat × Operand) → Option (List (Nat × AV))
  | [] => some []
  | (i, o) :: r => match ev tm o with
    | none => none
    | some x => match evParts tm r with
      | none => none
      | some l => some ((i, x) :: l)
def maxA : List AV → Option AV
  | [.int k x, .int _ y] => some (.int k (if y > x then y else x))
  | _ => none
def minA : List AV → Option AV
  | [.int k x, .int _ y] => some (.int k (if y < x then y else x))
  | _ => none
section
def bAppend (und : Nat → Option TypeDesc) (inf : Nat → Option TypeInfo) (ah : AH) (ts : List TypeId) : List AV → Option ORes
  | [s, x] => oval2 (appendA und inf ah ts s x)
  | _ => none
def bCopy (und : Nat → Option TypeDesc) (inf : Nat → Option TypeInfo) (ah : AH) (ts : List TypeId) : List AV → Option ORes
  | [s, x] => oval2 (copyA und inf ah ts s x)
  | _ => none
def bLen (und : Nat → Option TypeDesc) (inf : Nat → Option TypeInfo) (ah : AH) (ts : List TypeId) : List AV → Option ORes
  | [x] => oval ah (lenOpA und inf ah ts x)
  | _ => none
def cBuiltin (und : Nat → Option TypeDesc) (inf : Nat → Option TypeInfo) (b : Builtin) (ah : AH) (ts : List TypeId) (args : List AV) : Option ORes :=
  match b with
  | .append => bAppend und inf ah ts args
  | .copy => bCopy und inf ah ts args
  | .len => bLen und inf ah ts args
  | .max => oval ah (maxA args)
  | .min => oval ah (minA args)
  | _ => none
def cValue (f : Option AV) (args : List AV) : Option ORes :=
  match f with
  | some (.fn f first cap) => some (.call f (first ++ args ++ cap))
  | some (.yield l) => some (.yield l args)
  | _ => none
def cGo (und : Nat → Option TypeDesc) (inf : Nat → Option TypeInfo) (tm : T AV) (ah : AH) (ts : List TypeId) (args : List AV) (c : Callee) : Option ORes :=
  match c with
  | .value f => cValue (ev tm f) args
  | .builtin b => cBuiltin und inf b ah ts args
  | .invoke _ _ => none
/-- On, with what an operand stands for. -/
def on1 (tm : T AV) (x : Operand) (k : AV → Option ORes) : Option ORes :=
  match ev tm x with
  | some v => k v
  | none => none
def onL (tm : T AV) (x : List Operand) (k : List AV → Option ORes) : Option ORes :=
  match evs tm x with
  | some v => k v
  | none => none
def onO (tm : T AV) (x : Option Operand) (k : Option AV → Option ORes) : Option ORes :=
  match evO tm x with
  | some v => k v
  | none => none
def onP (tm : T AV) (x : List (Nat × Operand)) (k : List (Nat × AV) → Option ORes) : Option ORes :=
  match evParts tm x with
  | some v => k v
  | none => none
def oCall (und : Nat → Option TypeDesc) (inf : Nat → Option TypeInfo) (tm : T AV) (ah : AH) (c : Call) : Option ORes :=
  match c with
  | ⟨callee, args, ts⟩ => onL tm args.toList fun l => cGo und inf tm ah ts.toList l callee
def oMove (tm : T AV) (ah : AH) (x : Operand) : Option ORes := oval ah (ev tm x)
def oPick2 (tm : T AV) (ah : AH) (a b : Operand) : AV → Option ORes
  | .bool t => oMove tm ah (cnd (t) (a) <| b)
  | _ => none
def oPick (tm : T AV) (ah : AH) (c a b : Operand) : Option ORes := on1 tm c (oPick2 tm ah a b)
def oNew (ah : AH) : Option AV → Option ORes
  | some z => cnd z.okc (some (.val (.ptr ah.next 0) (ah.new (.cells z.cells)))) none
  | none => none
def oBuild (und : Nat → Option TypeDesc) (inf : Nat → Option TypeInfo) (tm : T AV) (ah : AH) (t : TypeId) (parts : Array (Nat × Operand)) : Option ORes := onP tm parts.toList fun l => oval ah (buildA und inf t l)
def oBuildSlice (und : Nat → Option TypeDesc) (inf : Nat → Option TypeInfo) (tm : T AV) (ah : AH) (t : TypeId) (n : Nat) (parts : Array (Nat × Operand)) : Option ORes := onP tm parts.toList fun l => oval2 (buildSliceA und inf ah t n l)
def oLoad (und : Nat → Option TypeDesc) (inf : Nat → Option TypeInfo) (tm : T AV) (ah : AH) (t : TypeId) (x : Operand) : Option ORes := on1 tm x fun v => oval ah (loadA und inf ah t v)
def oStore (und : Nat → Option TypeDesc) (inf : Nat → Option TypeInfo) (tm : T AV) (ah : AH) (t : TypeId) (x v : Operand) : Option ORes := on1 tm x fun a => on1 tm v fun b => oskip (storeA und inf ah t a b)
def oNil2 (ah : AH) : AV → Option ORes
  | .ptr b o => some (.val (.ptr b o) ah)
  | _ => none
def oNil (tm : T AV) (ah : AH) (x : Operand) : Option ORes := on1 tm x (oNil2 ah)
def oBin (und : Nat → Option TypeDesc) (inf : Nat → Option TypeInfo) (tm : T AV) (ah : AH) (op : BinOp) (t : TypeId) (x y : Operand) : Option ORes := on1 tm x fun a => on1 tm y fun b => oval ah (binA und inf op t x y a b)
def oUn (tm : T AV) (ah : AH) (op : UnOp) (x : Operand) : Option ORes := on1 tm x fun a => oval ah (unA op a)
def oConv (und : Nat → Option TypeDesc) (inf : Nat → Option TypeInfo) (tm : T AV) (ah : AH) (s d : TypeId) (x : Operand) : Option ORes := on1 tm x fun a => oval2 (convA und inf ah s d a)
def oArr2 (ah : AH) (d : Option TypeDesc) : AV → Option ORes
  | .slice b o n _ => match d with
    | some (.array k _) => cnd (Nat.ble k n) (some (.val (.ptr b o) ah)) <| none
    | _ => none
  | _ => none
def oArr (und : Nat → Option TypeDesc) (inf : Nat → Option TypeInfo) (tm : T AV) (ah : AH) (t : TypeId) (x : Operand) : Option ORes := on1 tm x (oArr2 ah (und t))
def oIface2 (ah : AH) (t : TypeId) (d : Option TypeDesc) (v : AV) : Option ORes :=
  match d with
  | some (.interface _) => none
  | some _ => some (.val (.iface t v) ah)
  | none => none
def oIface (und : Nat → Option TypeDesc) (inf : Nat → Option TypeInfo) (tm : T AV) (ah : AH) (t : TypeId) (x : Operand) : Option ORes := on1 tm x (oIface2 ah t (und t))
def oFunc (tm : T AV) (ah : AH) (fn : Fn) (first cap : Array Operand) : Option ORes :=
  match fn with
  | .func f => onL tm first.toList fun a => onL tm cap.toList fun b => some (.val (.fn f a b) ah)
  | _ => none
def oMap (ah : AH) (r : Option Operand) : Option ORes :=
  match r with
  | none => some (.val (.map ah.next) (ah.new (.map [] 0)))
  | some _ => none
def oMakeSlice (und : Nat → Option TypeDesc) (inf : Nat → Option TypeInfo) (tm : T AV) (ah : AH) (t : TypeId) (l c : Operand) : Option ORes := on1 tm l fun l => on1 tm c fun c => oval2 (makeSliceA und inf ah t l c)
def oSlice (und : Nat → Option TypeDesc) (inf : Nat → Option TypeInfo) (tm : T AV) (ah : AH) (t : TypeId) (x : Operand) (lo hi mx : Option Operand) : Option ORes :=
  on1 tm x fun v => onO tm lo fun l => onO tm hi fun h => onO tm mx fun m => oval ah (sliceA und inf t v l h m)
def oFieldAddr (und : Nat → Option TypeDesc) (inf : Nat → Option TypeInfo) (tm : T AV) (ah : AH) (s : TypeId) (x : Operand) (f : Nat) : Option ORes := on1 tm x fun v => oval ah (fieldAddrA und inf s v f)
def oField (und : Nat → Option TypeDesc) (inf : Nat → Option TypeInfo) (tm : T AV) (ah : AH) (s : TypeId) (x : Operand) (f : Nat) : Option ORes := on1 tm x fun v => oval ah (fieldA und inf s v f)
def oIndexAddr (und : Nat → Option TypeDesc) (inf : Nat → Option TypeInfo) (tm : T AV) (ah : AH) (t : TypeId) (x i : Operand) : Option ORes := on1 tm x fun v => on1 tm i fun i => oval ah (indexAddrA und inf t v i)
def oIndex (und : Nat → Option TypeDesc) (inf : Nat → Option TypeInfo) (tm : T AV) (ah : AH) (t : TypeId) (x i : Operand) : Option ORes := on1 tm x fun v => on1 tm i fun i => oval ah (indexA und inf t v i)
def oLookup (und : Nat → Option TypeDesc) (inf : Nat → Option TypeInfo) (tm : T AV) (ah : AH) (t : TypeId) (x i : Operand) (ok : Bool) : Option ORes := on1 tm x fun v => on1 tm i fun i => oval ah (lookupA und inf ah t v i ok)
def oUpdate (und : Nat → Option TypeDesc) (inf : Nat → Option TypeInfo) (tm : T AV) (ah : AH) (t : TypeId) (m k v : Operand) : Option ORes := on1 tm m fun m => on1 tm k fun k => on1 tm v fun v => oskip (mapUpdateA und inf ah t m k v)
def oRange (und : Nat → Option TypeDesc) (inf : Nat → Option TypeInfo) (tm : T AV) (ah : AH) (t : TypeId) (x : Operand) : Option ORes := on1 tm x fun v => oval2 (rangeA und inf ah t v)
def oNext (tm : T AV) (ah : AH) (it : Operand) (s : Bool) : Option ORes := on1 tm it fun v => oval2 (nextA ah v s)
def oEntry (tm : T AV) (ah : AH) (it : Operand) : Option ORes := on1 tm it fun v => oval ah (entryA ah v)
def oAssert (und : Nat → Option TypeDesc) (inf : Nat → Option TypeInfo) (tm : T AV) (ah : AH) (x : Operand) (t : TypeId) (ok : Bool) : Option ORes := on1 tm x fun v => oval ah (assertA und inf v t ok)
def oExtract2 (ah : AH) (i : Nat) : AV → Option ORes
  | .tup vs => oval ah vs[i]?
  | _ => none
def oExtract (tm : T AV) (ah : AH) (x : Operand) (i : Nat) : Option ORes := on1 tm x (oExtract2 ah i)
def oDefer2 (args : List AV) : AV → Option ORes
  | .fn f first cap => some (.defer (.call f (first ++ args) cap))
  | _ => none
def oDefer (tm : T AV) (c : Call) : Option ORes :=
  match c with
  | ⟨.value f, args, _⟩ => onL tm args.toList fun l => on1 tm f (oDefer2 l)
  | _ => none
def opA2 (und : Nat → Option TypeDesc) (inf : Nat → Option TypeInfo) (tm : T AV) (ah : AH) (o : Op) : Option ORes :=
  match o with
  | .move x => oMove tm ah x
  | .assign x => oMove tm ah x
  | .pick c a b => oPick tm ah c a b
  | .alloc t => oNew ah (zeroA und inf t)
  | .box _ x => oNew ah (ev tm x)
  | .build t parts => oBuild und inf tm ah t parts
  | .buildSlice t n parts => oBuildSlice und inf tm ah t n parts
  | .load t x => oLoad und inf tm ah t x
  | .store t x v => oStore und inf tm ah t x v
  | .nilCheck x => oNil tm ah x
  | .binOp op t x y _ => oBin und inf tm ah op t x y
  | .unOp op _ x => oUn tm ah op x
  | .convert s d x => oConv und inf tm ah s d x
  | .sliceToArrayPointer t x => oArr und inf tm ah t x
  | .makeInterface t x => oIface und inf tm ah t x
  | .makeFunc fn first cap => oFunc tm ah fn first cap
  | .makeMap _ r => oMap ah r
  | .makeSlice t l c => oMakeSlice und inf tm ah t l c
  | .slice t x lo hi mx => oSlice und inf tm ah t x lo hi mx
  | .fieldAddr s x f => oFieldAddr und inf tm ah s x f
  | .field s x f => oField und inf tm ah s x f
  | .indexAddr t x i => oIndexAddr und inf tm ah t x i
  | .index t x i => oIndex und inf tm ah t x i
  | .lookup t x i ok => oLookup und inf tm ah t x i ok
  | .mapUpdate t m k v => oUpdate und inf tm ah t m k v
  | .insert t m k v => oUpdate und inf tm ah t m k v
  | .range t x => oRange und inf tm ah t x
  | .next it s => oNext tm ah it s
  | .entry it => oEntry tm ah it
  | .typeAssert x _ t ok => oAssert und inf tm ah x t ok
  | .extract x i => oExtract tm ah x i
  | .call c => oCall und inf tm ah c
  | .defer c => oDefer tm c
  | _ => none
def opA (und : Nat → Option TypeDesc) (inf : Nat → Option TypeInfo) (tm : T AV) (ah : AH) (o : Oper) : Option ORes := opA2 und inf tm ah o.op
end
end
end Go.Proofs.YtpmlofbpiajkbaaGreatDoor.M2
