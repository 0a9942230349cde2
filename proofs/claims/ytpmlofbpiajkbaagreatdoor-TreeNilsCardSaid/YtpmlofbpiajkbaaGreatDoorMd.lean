/- A verified interpreter: regions, statements, calls. -/
import Derived.Test.YtpmlofbpiajkbaaGreatDoorMc
set_option linter.unusedVariables false
namespace Go.Proofs.YtpmlofbpiajkbaaGreatDoor.M2
open Go
noncomputable section

/-! ## Are two values one? -/
def roomEq : Room → Room → Bool
  | .known a, .known b => Nat.beq a b
  | .own a, .own b => Nat.beq a b
  | _, _ => false
mutual
def avEq : AV → AV → Bool
  | .bool a, .bool b => a == b
  | .int k a, .int k2 b => decide (k = k2) && decide (a = b)
  | .str a, .str b => natsEq a b
  | .nilp, .nilp => true
  | .ptr a o, .ptr b p => Nat.beq a b && Nat.beq o p
  | .nils, .nils => true
  | .empty, .empty => true
  | .slice a o n c, .slice b p m d => Nat.beq a b && Nat.beq o p && Nat.beq n m && roomEq c d
  | .nilm, .nilm => true
  | .map a, .map b => Nat.beq a b
  | .fn f x y, .fn g u v => Nat.beq f g && avsEq x u && avsEq y v
  | .yield a, .yield b => Nat.beq a b
  | .nilf, .nilf => true
  | .iface t x, .iface u y => Nat.beq t u && avEq x y
  | .nili, .nili => true
  | .agg x, .agg y => avsEq x y
  | .tup x, .tup y => avsEq x y
  | .tok k neg b c lo hi, .tok k2 neg2 b2 c2 lo2 hi2 => decide (k = k2) && (Nat.beq b b2 && (decide (c = c2) && (decide (lo = lo2) && (decide (hi = hi2) && (neg == neg2)))))
  | .anyi k, .anyi k2 => decide (k = k2)
  | .slt b o t c lo hi, .slt b2 o2 t2 c2 lo2 hi2 => Nat.beq b b2 && (Nat.beq o o2 && (Nat.beq t t2 && (decide (c = c2) && (Nat.beq lo lo2 && Nat.beq hi hi2))))
  | _, _ => false
def avsEq : List AV → List AV → Bool
  | [], [] => true
  | x :: l, y :: r => avEq x y && avsEq l r
  | _, _ => false
end
structure Fr where
  tmps : T AV
  n : Nat
  ds : List ADef
def Fr.put (fr : Fr) (dst : Option Tmp) (v : AV) : Fr :=
  match dst with
  | some d => match fr with
    | ⟨tm, n, ds⟩ => cnd (Nat.blt d n) (⟨tm.put d (some v), n, ds⟩) <| ⟨tm, n, ds⟩
  | none => fr
inductive AExit where
  | normal
  | exit (id : Nat)
  | goto (l : Nat)
  | ret
inductive Res where
  | code (ex : AExit) (fr : Fr) (ah : AH)
  | val (v : AV) (ah : AH)
inductive Job where
  | code (r : Option Nat) (c : Code) (fr : Fr) (ah : AH)
  | loop (r : Option Nat) (c : Code) (fr : Fr) (ah : AH)
  | call (f : Nat) (args : List AV) (ah : AH)
  | round (l : Nat) (args : List AV) (ah : AH)
structure Cfg where
  P : Program
  base : Phi
  und : Nat → Option TypeDesc
  inf : Nat → Option TypeInfo
  fns : Nat → Option Func
  orc : Nat → Option (List AV → AH → Option (AV × AH))
  noop : Nat → Bool
def wantV (want : Bool) : Option AV → Option Bool
  | some (.bool b) => some (b == want)
  | some (.tup []) => some false
  | _ => none
def wantT (want : Bool) (tm : T AV) : Option Oper → Option Bool
  | some o => match o.dst with
    | some t => wantV want (tm.get t)
    | none => none
  | none => none
/-- Is it wanted, by its guard? -/
def wantA (ops : List Oper) (tm : T AV) (o : Oper) : Option Bool :=
  match o.guard with
  | none => some true
  | some (j, want) => wantT want tm ops[j]?
section
variable (C : Cfg) (rec : Job → Option Res)
def resV : Option Res → Option (AV × AH)
  | some (.val v ah) => some (v, ah)
  | _ => none
def do2 (ah0 : AH) : Option ORes → Option (AV × AH)
  | some (.val v ah) => some (v, ah)
  | some (.skip ah) => some (.und, ah)
  | some (.call f args) => resV (rec (.call f args ah0))
  | some (.yield l args) => resV (rec (.round l args ah0))
  | _ => none
/-- One operation, no defer statement: what it yields, and the heap. -/
def doA (tm : T AV) (ah : AH) (o : Oper) : Option (AV × AH) := do2 rec ah (opA C.und C.inf tm ah o)
def putV (dst : Option Tmp) (fr : Fr) : Option (AV × AH) → Option (Fr × AH)
  | some (v, ah) => some (fr.put dst v, ah)
  | none => none
def putD (r : Option Nat) (dst : Option Tmp) (fr : Fr) (ah : AH) (d : ADef) : Option (Fr × AH) :=
  match r, fr with
  | none, ⟨tm, n, ds⟩ => some (Fr.put ⟨tm, n, d :: ds⟩ dst .und, ah)
  | some _, _ => none
def one2 (r : Option Nat) (dst : Option Tmp) (fr : Fr) (ah0 : AH) (x : Option ORes) : Option (Fr × AH) :=
  match x with
  | some (.defer d) => putD r dst fr ah0 d
  | x => putV dst fr (do2 rec ah0 x)
def oneA (r : Option Nat) (o : Oper) (fr : Fr) (ah : AH) : Option (Fr × AH) := one2 rec r o.dst fr ah (opA C.und C.inf fr.tmps ah o)
def seq2 (k : Fr → AH → Option (Fr × AH)) : Option (Fr × AH) → Option (Fr × AH)
  | some (fr, ah) => k fr ah
  | none => none
def opsSeq (r : Option Nat) (all : List Oper) : List Oper → Fr → AH → Option (Fr × AH)
  | [], fr, ah => some (fr, ah)
  | o :: rest, fr, ah => match wantA all fr.tmps o with
    | some true => seq2 (opsSeq r all rest) (oneA C rec r o fr ah)
    | some false => opsSeq r all rest (fr.put o.dst .und) ah
    | none => none

/-! ## A region that draws its order -/
/-- Kinds of operations: it needs but its frame; it reads the heap; it makes a block; it acts. -/
inductive Kind where
  | pure
  | read
  | fresh
  | act
def kindConv : Option TypeDesc → Option TypeDesc → Kind
  | some .string, some (.slice _) => .fresh
  | some (.slice _), some .string => .read
  | some (.slice _), some (.slice _) => .act
  | _, _ => .pure
def kindCall : Callee → Kind
  | .builtin .len => .read
  | .builtin .max => .pure
  | .builtin .min => .pure
  | _ => .act
def kindOf (o : Oper) : Kind :=
  match o.op with
  | .move _ | .assign _ | .pick .. | .build .. | .nilCheck _ | .binOp .. | .unOp .. | .sliceToArrayPointer .. | .makeInterface .. | .makeFunc .. | .slice .. | .fieldAddr .. | .field .. | .indexAddr .. | .index .. | .typeAssert .. | .extract .. => .pure
  | .load .. | .lookup .. => .read
  | .convert s d _ => kindConv (C.und s) (C.und d)
  | .alloc _ | .box .. | .buildSlice .. | .makeSlice .. => .fresh
  | .call c => kindCall c.callee
  | _ => .act
/-! Sets of numbers, as numbers. -/
def bitB (i : Nat) : Nat := Nat.shiftLeft 1 i
def hasB (m i : Nat) : Bool := Nat.beq (Nat.mod (Nat.shiftRight m i) 2) 1
def subB (a b : Nat) : Bool := Nat.beq (Nat.land a b) a
/-- An operation, its number, what it waits for, what that waits for, and what temporaries it looks at. -/
structure OI where
  i : Nat
  o : Oper
  pre : Nat
  anc : Nat
  opm : Nat
def preOf : List Edge → Nat
  | [] => 0
  | e :: r => cnd (Region.binds .any e) (Nat.lor (bitB e.on) (preOf r)) (preOf r)
def ancOf (tab : T Nat) : List Edge → Nat
  | [] => 0
  | e :: r => cnd (Region.binds .any e) (Nat.lor (Nat.lor (bitB e.on) ((tab.get e.on).getD 0)) (ancOf tab r)) (ancOf tab r)
def opmOf : List Operand → Nat
  | [] => 0
  | .tmp t :: r => Nat.lor (bitB t) (opmOf r)
  | _ :: r => opmOf r
def grdT : Option Oper → Nat
  | some o => match o.dst with
    | some t => bitB t
    | none => 0
  | none => 0
def grdOf (all : List Oper) (o : Oper) : Nat :=
  match o.guard with
  | none => 0
  | some (j, _) => grdT all[j]?
def infosF (all : List Oper) : List Oper → Nat → T Nat → List OI
  | [], _, _ => []
  | o :: r, i, tab => ⟨i, o, preOf o.after.toList, ancOf tab o.after.toList, Nat.lor (opmOf o.op.operands.toList) (grdOf all o)⟩ :: infosF all r (i + 1) (tab.put i (some (ancOf tab o.after.toList)))
/-- How an operation was done. -/
inductive NK where
  | skip
  | pure
  | read
  | fresh (b : Nat) (c : List AV)
  | past
structure Rec where
  x : OI
  k : NK
structure St where
  D : Nat
  U : Nat
  ns : List Rec
  tm : T AV
  ah : AH
def sepR (x : OI) (r : Rec) : Bool := cnd (hasB x.anc r.x.i) true (match r.x.o.dst with
  | some d => !hasB x.opm d
  | none => true)
/-- What it looks at was written by what it waits for alone. -/
def sepA (x : OI) : List Rec → Bool
  | [] => true
  | r :: l => cnd (sepR x r) (sepA x l) false
def putN (x : OI) (k : NK) (s : St) (ah : AH) : Option St :=
  match s with
  | ⟨D, U, ns, tm, _⟩ => some ⟨Nat.lor (bitB x.i) D, Nat.lor x.opm U, ⟨x, k⟩ :: ns, tm, ah⟩
def putS (n : Nat) (x : OI) (k : NK) (v : AV) (d : Nat) (s : St) (ah : AH) : Option St :=
  match s with
  | ⟨D, U, ns, tm, _⟩ => cnd (Nat.blt d n) (cnd (hasB (Nat.lor x.opm U) d) none (some ⟨Nat.lor (bitB x.i) D, Nat.lor (bitB d) (Nat.lor x.opm U), ⟨x, k⟩ :: ns, tm.put d (some v), ah⟩)) none
def putO (n : Nat) (x : OI) (k : NK) (v : AV) (s : St) (ah : AH) : Option St :=
  match x.o.dst with
  | some d => putS n x k v d s ah
  | none => putN x k s ah
def putP (n : Nat) (x : OI) (k : NK) (s : St) : Option ORes → Option St
  | some (.val v _) => match x.o.dst with
    | some d => putS n x k v d s s.ah
    | none => none
  | _ => none
def putF2 (n : Nat) (x : OI) (v : AV) (s : St) (ah2 : AH) : Option AObj → Option St
  | some (.cells c) => match x.o.dst with
    | some d => putS n x (.fresh s.ah.next c) v d s ah2
    | none => none
  | _ => none
def putF (n : Nat) (x : OI) (s : St) : Option ORes → Option St
  | some (.val v ah2) => putF2 n x v s ah2 (ah2.get s.ah.next)
  | _ => none
def stepK (n : Nat) (x : OI) (s : St) : Kind → Option St
  | .act => some s
  | .pure => putP n x .pure s (opA C.und C.inf s.tm s.ah x.o)
  | .read => putP n x .read s (opA C.und C.inf s.tm s.ah x.o)
  | .fresh => putF n x s (opA C.und C.inf s.tm s.ah x.o)
def stepS (all : List Oper) (n : Nat) (x : OI) (s : St) : Option St :=
  cnd (sepA x s.ns) (match wantA all s.tm x.o with
    | some true => stepK C n x s (kindOf C x.o)
    | some false => putO n x .skip .und s s.ah
    | none => none) none
/-- One pass: all that is ready and does not act. -/
def passA (all : List Oper) (n : Nat) : List OI → St → Option St
  | [], s => some s
  | x :: r, s => cnd (hasB s.D x.i) (passA all n r s) (cnd (subB x.pre s.D) (match stepS C all n x s with
    | some s => passA all n r s
    | none => none) (passA all n r s))
def readyA (D : Nat) : List OI → List OI
  | [] => []
  | x :: r => cnd (hasB D x.i) (readyA D r) (cnd (subB x.pre D) (x :: readyA D r) (readyA D r))
def heldV (u : Option AV) : Option ORes → Bool
  | some (.val v _) => match u with
    | some u => avEq v u
    | none => false
  | _ => false
def heldC (c : List AV) : Option AObj → Bool
  | some (.cells c2) => avsEq c c2
  | _ => false
def heldK (s : St) (o : Oper) : NK → Bool
  | .read => match o.dst with
    | some d => heldV (s.tm.get d) (opA C.und C.inf s.tm s.ah o)
    | none => false
  | .fresh b c => heldC c (s.ah.get b)
  | _ => true
/-- What was done and may yet be to do in another order comes to the same. -/
def heldA (S : Nat) (s : St) : List Rec → Bool
  | [] => true
  | r :: l => cnd (hasB S r.x.i) (heldA S s l) (cnd (heldK C s r.x.o r.k) (heldA S s l) false)
def fullA (D : Nat) : List OI → Bool
  | [] => true
  | x :: l => cnd (hasB D x.i) (fullA D l) false
def actA (n : Nat) (x : OI) (s : St) : Option (AV × AH) → Option St
  | some (v, ah) => putO n x .past v s ah
  | none => none
def actS (all : List Oper) (n : Nat) (x : OI) (s : St) : Option St :=
  cnd (sepA x s.ns) (match wantA all s.tm x.o with
    | some true => actA n x s (doA C rec s.tm s.ah x.o)
    | _ => none) none
def stagesA (all : List Oper) (infos : List OI) (n : Nat) : Nat → Nat → St → Option St
  | 0, _, _ => none
  | m + 1, S, s => match passA C all n infos s with
    | none => none
    | some s => cnd (heldA C S s s.ns) (match readyA s.D infos with
      | [] => cnd (fullA s.D infos) (some s) none
      | [x] => match actS C rec all n x s with
        | some s => stagesA all infos n m (Nat.lor (bitB x.i) (Nat.lor x.anc S)) s
        | none => none
      | _ => none) none
def preLt : List OI → Bool
  | [] => true
  | x :: l => cnd (Nat.blt x.pre (bitB x.i)) (preLt l) false
def drawE (fr : Fr) : Option St → Option (Fr × AH)
  | some s => match s, fr with
    | ⟨_, _, _, tm, ah⟩, ⟨_, n, ds⟩ => some (⟨tm, n, ds⟩, ah)
  | none => none
def drawI (all : List Oper) (infos : List OI) (fr : Fr) (ah : AH) : Option (Fr × AH) :=
  cnd (preLt infos) (drawE fr (stagesA C rec all infos fr.n (all.length + 1) 0 ⟨0, 0, [], fr.tmps, ah⟩)) none
def drawA (ops : List Oper) (fr : Fr) (ah : AH) : Option (Fr × AH) := drawI C rec ops (infosF ops ops 0 .leaf) fr ah

/-! ## Statements -/
def jumpOf : AExit → Option Code
  | .normal => none
  | .ret => some .ret
  | .exit id => some (.exit id)
  | .goto l => some (.goto l)
def setParams : List (Nat × AV) → Fr → Fr
  | [], fr => fr
  | (t, v) :: r, fr => setParams r (fr.put (some t) v)
def fromL : List AV → Nat → T AV → T AV
  | [], _, tm => tm
  | v :: r, i, tm => fromL r (i + 1) (tm.put i (some v))
def resultsA (ah : AH) (tm : T AV) : List ResultVar → Option (List AV)
  | [] => some []
  | .tmp t :: r => match tm.get t, resultsA ah tm r with
    | some v, some l => some (v :: l)
    | _, _ => none
  | .cell a t :: r => match tm.get a with
    | some x => match loadA C.und C.inf ah t x, resultsA ah tm r with
      | some v, some l => some (v :: l)
      | _, _ => none
    | none => none
def leaveA : List ADef → AH → Option AH
  | [], ah => some ah
  | .collected b :: r, ah => match ah.get b with
    | some .defd => leaveA r (ah.kill b)
    | _ => none
  | .call f _ _ :: r, ah => cnd (C.noop f) (leaveA r ah) none
def retV (ah : AH) : Option (List AV) → Option Res
  | some [v] => some (.val v ah)
  | some l => some (.val (.tup l) ah)
  | none => none
def ret2 (fn : Func) (tm : T AV) : Option AH → Option Res
  | some ah => retV ah (resultsA C ah tm fn.results.toList)
  | none => none
def ret1 (fn : Func) (fr : Fr) (ah : AH) : AExit → Option Res
  | .normal => ret2 C fn fr.tmps (leaveA C fr.ds ah)
  | .ret => ret2 C fn fr.tmps (leaveA C fr.ds ah)
  | _ => none
def ret0 (fn : Func) : Option Res → Option Res
  | some (.code ex fr ah) => ret1 C fn fr ah ex
  | _ => none
def enterJ (args : List AV) (ah : AH) : Option Func → Option Res
  | some fn => match fn.body with
    | some c => cnd (Nat.ble args.length fn.ntmps) (ret0 C fn (rec (.code none c ⟨fromL args 0 .leaf, fn.ntmps, []⟩ ah))) none
    | none => none
  | none => none
def callJ (f : Nat) (args : List AV) (ah : AH) : Option Res :=
  match C.orc f with
  | some g => match g args ah with
    | some (v, ah) => some (.val v ah)
    | none => none
  | none => enterJ C rec args ah (C.fns f)
def round3 (l : Nat) (ex : AExit) (fr : Fr) (ah : AH) : Option AObj → Option Res
  | some (.loop _ _ tmps n params assign body ds) => match fr.ds with
    | [] => some (.val (.bool (jumpOf ex).isNone) (ah.set l (.loop (cnd ((jumpOf ex).isNone) (.ready) <| .done) (jumpOf ex) tmps n params assign body ds)))
    | _ => none
  | _ => none
def round2 (l : Nat) : Option Res → Option Res
  | some (.code ex fr ah) => round3 l ex fr ah (ah.get l)
  | _ => none
def round1 (l : Nat) (body : Code) (fr : Fr) (ah : AH) : Option AObj → Option Res
  | some (.loop .ready pe tmps n params assign body2 ds) => round2 l (rec (.code (some l) body fr (ah.set l (.loop .busy pe tmps n params assign body2 ds))))
  | _ => none
def round0 (l : Nat) (body : Code) : Option Res → Option Res
  | some (.code .normal fr ah) => round1 rec l body fr ah (ah.get l)
  | _ => none
def roundO (l : Nat) (args : List AV) (ah : AH) : Option AObj → Option Res
  | some (.loop .ready _ tmps n params assign body _) => cnd (Nat.beq args.length params.length) (round0 rec l body (rec (.code (some l) assign (setParams (params.zip args) ⟨tmps, n, []⟩) ah))) none
  | _ => none
def roundJ (l : Nat) (args : List AV) (ah : AH) : Option Res := roundO rec l args ah (ah.get l)
def range2 (fr : Fr) (ah : AH) : Option Code → Option Res
  | none => some (.code .normal fr ah)
  | some c => rec (.code none c fr ah)
def range1 (l ds : Nat) (fr : Fr) (ah : AH) : Option AObj → Option Res
  | some (.loop .ready pe _ _ _ _ _ _) => range2 rec ⟨fr.tmps, fr.n, .collected ds :: fr.ds⟩ (ah.kill l) pe
  | some (.loop .done pe _ _ _ _ _ _) => range2 rec ⟨fr.tmps, fr.n, .collected ds :: fr.ds⟩ (ah.kill l) pe
  | _ => none
def range0 (l ds : Nat) (fr : Fr) : Option Res → Option Res
  | some (.val _ ah) => range1 rec l ds fr ah (ah.get l)
  | _ => none
def rangeV (params : Array Tmp) (assign body : Code) (fr : Fr) (ah : AH) : Option AV → Option Res
  | some (.fn g first cap) => match C.orc g with
    | none => range0 rec (ah.next + 1) ah.next fr (rec (.call g (first ++ [.yield (ah.next + 1)] ++ cap) ((ah.new .defd).new (.loop .ready none fr.tmps fr.n params.toList assign body ah.next))))
    | some _ => none
  | _ => none
def rangeJ (r : Option Nat) (f : Operand) (params : Array Tmp) (assign body : Code) (fr : Fr) (ah : AH) : Option Res :=
  match r with
  | none => rangeV C rec params assign body fr ah (ev fr.tmps f)
  | some _ => none
def regJ : Option (Fr × AH) → Option Res
  | some (fr, ah) => some (.code .normal fr ah)
  | none => none
def seqJ (r : Option Nat) (b : Code) : Option Res → Option Res
  | some (.code .normal fr ah) => rec (.code r b fr ah)
  | x => x
def condJ (r : Option Nat) (a b : Code) (fr : Fr) (ah : AH) : Option AV → Option Res
  | some (.bool t) => rec (.code r (cnd (t) (a) <| b) fr ah)
  | _ => none
def blockJ (id : Nat) : Option Res → Option Res
  | some (.code (.exit j) fr ah) => some (.code (cnd (Nat.beq j id) (.normal) <| .exit j) fr ah)
  | x => x
def loopJ (r : Option Nat) (c : Code) : Option Res → Option Res
  | some (.code .normal fr ah) => rec (.loop r c fr ah)
  | x => x
def scopeJ : Option Res → Option Res
  | some (.code (.goto _) _ _) => none
  | x => x
def regionJ (r : Option Nat) (ops : Array Oper) (draw : Bool) (fr : Fr) (ah : AH) : Option Res :=
  regJ (cnd (draw) (drawA C rec ops.toList fr ah) <| opsSeq C rec r ops.toList ops.toList fr ah)
def codeJ (r : Option Nat) (c : Code) (fr : Fr) (ah : AH) : Option Res :=
  match c with
  | .skip => some (.code .normal fr ah)
  | .label _ => some (.code .normal fr ah)
  | .exit id => some (.code (.exit id) fr ah)
  | .goto l => some (.code (.goto l) fr ah)
  | .ret => some (.code .ret fr ah)
  | .region _ ops draw => regionJ C rec r ops draw fr ah
  | .seq a b => seqJ rec r b (rec (.code r a fr ah))
  | .cond c a b => condJ rec r a b fr ah (ev fr.tmps c)
  | .block id c => blockJ id (rec (.code r c fr ah))
  | .loop c => rec (.loop r c fr ah)
  | .scope c => match r with
    | none => scopeJ (rec (.code r c fr ah))
    | some _ => none
  | .rangeFunc f params assign body => rangeJ C rec r f params assign body fr ah
  | .refuse _ => none
def stepJ : Job → Option Res
  | .code r c fr ah => codeJ C rec r c fr ah
  | .loop r c fr ah => loopJ rec r c (rec (.code r c fr ah))
  | .call f args ah => callJ C rec f args ah
  | .round l args ah => roundJ rec l args ah
end
def runJ (C : Cfg) (n : Nat) : Job → Option Res := Nat.rec (fun _ => none) (fun _ ih => stepJ C ih) n
end
end Go.Proofs.YtpmlofbpiajkbaaGreatDoor.M2
