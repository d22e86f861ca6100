/-
 The engine, part 3: what a function of the program comes to over an abstract heap; each part is proved against the model.
-/
import Derived.Test.YtlcigkdflbfdgaaGreatDoorEng1
import GoSem.Step
import Derived.Lib.Bytealg
namespace Go.Eng
open Go
noncomputable section
inductive Task where
 | call (f : FuncId) (args : List Value)
 | round (l : Nat) (args : List Value)
 | deferred (f : FuncId) (args : List Value) (rc : Option Value)
structure Interp where
 call : Task → M Value
 loop : {σ ρ : Type} → (σ → M (σ ⊕ ρ)) → σ → M ρ
inductive Ext where
 | indexByte | countByte | noEscape | cmpString | makeNoZero (params results : Array TypeId) | mapsClone
structure Cfg where
 P : Program
 ann : FuncId → Ann
 ext : FuncId → Option Ext
structure Fr where
 env : Slots
def Fr.eval (P : Program) (fr : Fr) : Operand → Option Value
 | .tmp t => look t fr.env
 | .const v => cond (plain v) (some v) none
 | .global g => cond (Nat.blt g P.globals.size) (some (.pointer (some ⟨g, 0, none⟩))) none
 | .func f => some (.func (.func f) #[] #[])
def Fr.set (fr : Fr) (t : Nat) (v : Value) : Fr := ⟨(t, v) :: fr.env⟩
def Fr.putDst (fr : Fr) (d : Option Tmp) (v : Value) : Fr := match d with
 | some t => fr.set t v
 | none => fr
def Fr.setOp (fr : Fr) (x : Operand) (v : Value) : Fr := match x with
 | .tmp t => fr.set t v
 | _ => fr
def evals (P : Program) (fr : Fr) : List Operand → Option (List Value)
 | [] => some []
 | x :: l => match fr.eval P x, evals P fr l with
  | some v, some vs => some (v :: vs)
  | _, _ => none
def evalParts (P : Program) (fr : Fr) : List (Nat × Operand) → Option (List (Nat × Value))
 | [] => some []
 | (i, x) :: l => match fr.eval P x, evalParts P fr l with
  | some v, some vs => some ((i, v) :: vs)
  | _, _ => none
def evalOpt (P : Program) (fr : Fr) : Option Operand → Option (Option Value)
 | none => some none
 | some x => (fr.eval P x).map some
def evExt {ρ : Type} (P : Program) (e : Ext) (args : List Value) (K : Value → M ρ) : M ρ :=
 match e, args with
 | .indexByte, [.string s, .int .u8 c] => K (.int .i64 (Lib.indexByte s.data.toList c.toNat.toUInt8))
 | .countByte, [.string s, .int .u8 c] => K (.int .i64 (Lib.countByte s.data.toList c.toNat.toUInt8 : Nat))
 | .noEscape, [x] => K x
 | .cmpString, [.string a, .string b] => K (.int .i64 (Extern.BytealgCompare.cmp a b))
 | .makeNoZero _ rs, [.int .i64 n] => (match (rs[0]?).bind P.underlying with
  | some (.slice e) => cond (isOne (sizeT P e) && decide (0 ≤ n) && decide (n ≤ 2 ^ 48))
    (M.new (.cells (Row.full undef n.toNat) e true (0, 0) false) fun b => K (.slice (some ⟨b, 0, none⟩) n.toNat n.toNat)) M.stuck
  | _ => M.stuck)
 | .mapsClone, [.iface t (.map (some m))] => fun A => (match A.get m with
  | some (.map es clock) => K (.iface t (.map (some A.next))) (A.alloc (.map es clock))
  | _ => .stuck)
 | _, _ => M.stuck
def M.callS {ρ : Type} (r : RSh) (m : M Value) (K : r.T → M ρ) : M ρ := M.bind m fun v => M.need (r.prj v) K
section
variable (C : Cfg) (I : Interp)
def rshT (ts : List TypeId) : RSh := match ts with
 | [t] => .one (shT C.P t)
 | ts => .tuple (ts.map (shT C.P))
def rshR (t : TypeId) : RSh := match C.P.underlying t with
 | some (.tuple ts) => .tuple (ts.toList.map (shT C.P))
 | _ => .one (shT C.P t)
def callF {ρ : Type} (g : FuncId) (args : List Value) (K : Value → M ρ) : M ρ :=
 match C.ext g with
 | some e => evExt C.P e args K
 | none => match C.P.funcs[g]? with
  | none => M.stuck
  | some fn => match fn.body with
   | none => M.stuck
   | some _ => M.callS (rshT C fn.resultTypes.toList) (I.call (.call g args)) fun x => K ((rshT C fn.resultTypes.toList).inj x)
def callV {ρ : Type} (f : Value) (args : List Value) (K : Value → M ρ) : M ρ :=
 match f with
 | .func (.func g) first captured => callF C I g (first.toList ++ args ++ captured.toList) K
 | .func (.yield l) first captured => cond (first.toList.isEmpty && captured.toList.isEmpty)
   (M.callS (.one (.cell .bool)) (I.call (.round l args)) fun b => K (.bool b)) M.stuck
 | _ => M.stuck
def methodA (t : TypeId) (name : String) : Option FuncId := match C.P.info? t with
 | none => none
 | some i => match i.methods.find? (·.name == name) with
  | none => none
  | some m => cond m.path.isEmpty (match m.func with
   | some (f, true) => (match C.P.underlying t with
    | some (.pointer _) => some f
    | _ => none)
   | some (f, false) => (match C.P.underlying t with
    | some (.pointer _) => none
    | some _ => some f
    | none => none)
   | none => none) none
def evOp {ρ : Type} (o : Oper) (fr : Fr) (K : Value → M ρ) : M ρ :=
 match o.op with
 | .move x => M.need (fr.eval C.P x) K
 | .assign x => M.need (fr.eval C.P x) K
 | .pick c a b => (match fr.eval C.P c with
  | some (.bool t) => M.ite t (M.need (fr.eval C.P a) K) (M.need (fr.eval C.P b) K)
  | _ => M.stuck)
 | .alloc e => (match zeroT C.P e with
  | some z => cond (plain z) (M.new (.cells (Row.ofList z.cells.toList) e false (0, 0) false) fun b => K (.pointer (some ⟨b, 0, none⟩))) M.stuck
  | none => M.stuck)
 | .box e x => M.need (fr.eval C.P x) fun v => M.new (.cells (Row.ofList v.cells.toList) e false (0, 0) false) fun b => K (.pointer (some ⟨b, 0, none⟩))
 | .build t parts => M.need (evalParts C.P fr parts.toList) fun ps => cond (((zeroT C.P t).map plain).getD false) (aBuild C.P t ps K) M.stuck
 | .buildSlice t n parts => M.need (evalParts C.P fr parts.toList) fun ps =>
   cond (match C.P.underlying t with
    | some (.slice e) => ((zeroT C.P e).map plain).getD false
    | _ => false) (aBuildSlice C.P t n ps K) M.stuck
 | .load t a => (match fr.eval C.P a, sizeT C.P t with
  | some (.pointer p), some n => M.deref p fun a => M.load (shT C.P t) n a fun x => K ((shT C.P t).inj x)
  | _, _ => M.stuck)
 | .store t a x => (match fr.eval C.P a, fr.eval C.P x, sizeT C.P t with
  | some (.pointer p), some v, some n => M.deref p fun a => cond (Nat.beq v.cells.toList.length n) (M.store a v.cells.toList (K undef)) M.stuck
  | _, _, _ => M.stuck)
 | .waits g => cond (Nat.blt g C.P.globals.size) (fun A => (match A.get g with
  | some (.cells _ _ _ _ _) => K (.bool false) A
  | _ => .stuck)) M.stuck
 | .nilCheck x => (match fr.eval C.P x with
  | some (.pointer p) => M.deref p fun a => K (.pointer (some a))
  | some (.func (.func g) first captured) => K (.func (.func g) first captured)
  | some (.func (.yield g) first captured) => K (.func (.yield g) first captured)
  | some (.iface t v) => K (.iface t v)
  | _ => M.stuck)
 | .binOp op t x y _ => (match fr.eval C.P x, fr.eval C.P y with
  | some vx, some vy => aBin C.P op t (match x with
    | .const _ => true
    | _ => false) (match y with
    | .const _ => true
    | _ => false) vx vy K
  | _, _ => M.stuck)
 | .unOp op _ x => M.need (fr.eval C.P x) fun v => aUn op v K
 | .convert s d x => M.need (fr.eval C.P x) fun v => aConvert C.P s d v K
 | .makeInterface t x => (match C.P.underlying t with
  | some (.interface _) => M.stuck
  | some _ => M.need (fr.eval C.P x) fun v => K (.iface t v)
  | none => M.stuck)
 | .makeFunc f first captured => (match f with
  | .func g => M.need (evals C.P fr first.toList) fun a => M.need (evals C.P fr captured.toList) fun b => K (.func (.func g) ⟨a⟩ ⟨b⟩)
  | _ => M.stuck)
 | .makeMap t r => (match r, C.P.underlying t with
  | none, some _ => M.new (.map [] 0) fun b => K (.map (some b))
  | some x, some (.map _ _) => (match fr.eval C.P x with
   | some (.int _ _) => M.new (.map [] 0) fun b => K (.map (some b))
   | _ => M.stuck)
  | _, _ => M.stuck)
 | .makeSlice t l c => (match fr.eval C.P l, fr.eval C.P c with
  | some vl, some vc => cond (match C.P.underlying t with
    | some (.slice e) => ((zeroT C.P e).map plain).getD false
    | _ => false) (aMakeSlice C.P t vl vc K) M.stuck
  | _, _ => M.stuck)
 | .slice t x lo hi mx => (match fr.eval C.P x, evalOpt C.P fr lo, evalOpt C.P fr hi, evalOpt C.P fr mx with
  | some v, some lo, some hi, some mx => aSlice C.P t v lo hi mx K
  | _, _, _, _ => M.stuck)
 | .fieldAddr s x f => M.need (fr.eval C.P x) fun v => aFieldAddr C.P s v f K
 | .field t x f => M.need (fr.eval C.P x) fun v => aField C.P t v f K
 | .indexAddr t x i => (match fr.eval C.P x, fr.eval C.P i with
  | some v, some ix => aIndexAddr C.P t v ix K
  | _, _ => M.stuck)
 | .index t x i => (match fr.eval C.P x, fr.eval C.P i with
  | some v, some ix => aIndex C.P t v ix K
  | _, _ => M.stuck)
 | .lookup t x i ok => (match fr.eval C.P x, fr.eval C.P i with
  | some v, some ix => aLookup C.P t v ix ok K
  | _, _ => M.stuck)
 | .mapUpdate t m k x => (match fr.eval C.P m, fr.eval C.P k, fr.eval C.P x with
  | some v, some key, some x => aMapUpdate C.P t v key x (K undef)
  | _, _, _ => M.stuck)
 | .insert t m k x => (match fr.eval C.P m, fr.eval C.P k, fr.eval C.P x with
  | some v, some key, some x => aMapUpdate C.P t v key x (K undef)
  | _, _, _ => M.stuck)
 | .range t x => M.need (fr.eval C.P x) fun v => aRange C.P t v K
 | .next it s => M.need (fr.eval C.P it) fun v => aNext v s K
 | .extract t i => M.need (fr.eval C.P t) fun v => aExtract v i K
 | .typeAssert x _ t ok => M.need (fr.eval C.P x) fun v => aTypeAssert C.P v t ok K
 | .call c => (match c.callee, evals C.P fr c.args.toList with
  | .value (.func g), some args => callF C I g args K
  | .value f, some args => M.need (fr.eval C.P f) fun f => callV C I f args fun v => M.need ((rshR C o.type).prj v) fun x => K ((rshR C o.type).inj x)
  | .invoke r name, some args => (match fr.eval C.P r with
   | some (.iface t v) => M.need (methodA C t name) fun f => callF C I f (v :: args) fun v => M.need ((rshR C o.type).prj v) fun x => K ((rshR C o.type).inj x)
   | _ => M.stuck)
  | .builtin b, some args => aBuiltin C.P b c.argTypes args K
  | _, none => M.stuck)
 | .panic x => (match fr.eval C.P x with
  | some (.iface t v) => M.throw (.iface t v)
  | _ => M.stuck)
 | _ => M.stuck
def stepOp {ρ : Type} (ops : List Oper) (o : Oper) (fr : Fr) (K : Fr → M ρ) : M ρ :=
 match o.guard with
 | none => evOp C I o fr fun v => K (fr.putDst o.dst v)
 | some (j, want) => match (ops[j]?).bind (·.dst) with
  | none => M.stuck
  | some d => match look d fr.env with
   | some (.bool b) => M.ite b
     (cond want (evOp C I o fr fun v => K ((fr.set d (.bool true)).putDst o.dst v)) (K ((fr.set d (.bool true)).putDst o.dst undef)))
     (cond want (K ((fr.set d (.bool false)).putDst o.dst undef)) (evOp C I o fr fun v => K ((fr.set d (.bool false)).putDst o.dst v)))
   | some (.tuple _) => K (fr.putDst o.dst undef)
   | _ => M.stuck
def evSeq {ρ : Type} (ops : List Oper) (K : Fr → M ρ) : List Oper → Fr → M ρ
 | [], fr => K fr
 | o :: l, fr => stepOp C I ops o fr fun fr => evSeq ops K l fr
def veq1 : Value → Value → Bool
 | .bool a, .bool b => a == b
 | .int k a, .int k' b => decide (k = k') && (a == b)
 | .string a, .string b => seq a b
 | .pointer a, .pointer b => decide (a = b)
 | .slice a n c, .slice b m d => decide (a = b) && Nat.beq n m && Nat.beq c d
 | .map a, .map b => decide (a = b)
 | .nilIface, .nilIface => true
 | .nilFunc, .nilFunc => true
 | _, _ => false
def veqs : List Value → List Value → Bool
 | [], [] => true
 | x :: xs, y :: ys => veq1 x y && veqs xs ys
 | _, _ => false
def veqv : Value → Value → Bool
 | .agg a, .agg b => veqs a.toList b.toList
 | x, y => veq1 x y
def guardSt (ops : List Oper) (o : Oper) (fr : Fr) : Option Bool := match o.guard with
 | none => some true
 | some (j, want) => match (ops[j]?).bind (·.dst) with
  | none => none
  | some d => match look d fr.env with
   | some (.bool b) => some (cond want b (!b))
   | some (.tuple _) => some false
   | _ => none
def recheck {ρ : Type} (ops : List Oper) (fr : Fr) (K : M ρ) : List Nat → M ρ
 | [] => K
 | j :: l => match ops[j]? with
  | some o => (match o.op, o.dst with
   | .load t a, some d => (match guardSt ops o fr with
    | some true => M.need (look d fr.env) fun v => (match fr.eval C.P a, sizeT C.P t with
     | some (.pointer p), some n => M.deref p fun a => M.load (shT C.P t) n a fun x => cond (veqv ((shT C.P t).inj x) v) (recheck ops fr K l) M.stuck
     | _, _ => M.stuck)
    | some false => recheck ops fr K l
    | none => M.stuck)
   | _, _ => M.stuck)
  | none => M.stuck
def opKind : Op → Nat
 | .move _ | .pick .. | .nilCheck _ | .unOp .. | .slice .. | .fieldAddr .. | .field .. | .indexAddr .. | .index .. | .extract .. | .makeInterface .. | .makeFunc .. | .build .. | .typeAssert .. => 0
 | .binOp op t _ _ _ => (match op with
  | .eql | .neq => (match C.P.underlying t with
   | some (.pointer _) => 3
   | some .unsafePointer => 3
   | some (.interface _) => 3
   | _ => 0)
  | _ => 0)
 | .convert s d _ => (match C.P.underlying s, C.P.underlying d with
  | some (.int _), some (.int _) => 0
  | _, _ => 3)
 | .call c => (match c.callee with
  | .builtin .len => (match (c.argTypes[0]?).bind C.P.underlying with
   | some .string => 0
   | some (.array _ _) => 0
   | some (.slice _) => 0
   | _ => 3)
  | .builtin .min => 0
  | .builtin .max => 0
  | _ => 3)
 | .load .. => 1
 | .alloc _ | .box .. | .buildSlice .. | .makeSlice .. => 2
 | _ => 3
def slotOf : Operand → List Nat
 | .tmp t => [t]
 | _ => []
def readsOf (ops : List Oper) (o : Oper) : List Nat :=
 (o.op.operands.toList.flatMap slotOf) ++ (match o.guard with
  | none => []
  | some (j, _) => ((ops[j]?).bind (·.dst)).toList)
def predsOf (o : Oper) : List Nat := (o.after.toList.filter (Region.binds .any)).map (·.on)
def befores : List Oper → List Nat → List Nat
 | [], acc => acc
 | o :: l, acc => befores l (acc ++ [(predsOf o).foldl (fun s j => s ||| 2 ^ j ||| acc.getD j 0) 0])
def waitsFor (B : List Nat) (i k : Nat) : Bool := (B.getD i 0).testBit k
def elemB (i : Nat) (l : List Nat) : Bool := l.any (Nat.beq i)
def slotsOk (ops : List Oper) (B : List Nat) : Bool :=
 ops.zipIdx.all fun (o, i) => (predsOf o).all (fun j => Nat.blt j i) && ops.zipIdx.all fun (u, k) =>
  match u.dst with
  | none => true
  | some d => cond (Nat.beq (opKind C u.op) 3)
    (Nat.beq i k || Nat.beq (opKind C o.op) 3 || !elemB d (readsOf ops o) || waitsFor B i k || waitsFor B k i)
    ((!elemB d (readsOf ops o) || (!Nat.beq i k && waitsFor B i k)) && (Nat.beq i k || !(match o.dst with
     | some e => Nat.beq d e
     | none => false)))
def readyNow (ops : List Oper) (done : List Nat) : List Nat :=
 (ops.zipIdx.filter fun (o, i) => !elemB i done && (predsOf o).all (elemB · done)).map (·.2)
def kindAt (ops : List Oper) (i : Nat) : Nat := match ops[i]? with
 | some o => opKind C o.op
 | none => 3
def evDraw {ρ : Type} (ops : List Oper) (B : List Nat) (K : Fr → M ρ) : Nat → List Nat → Fr → M ρ
 | 0, done, fr => match readyNow ops done with
  | [] => K fr
  | _ :: _ => M.stuck
 | n + 1, done, fr => match (readyNow ops done).find? (fun i => !Nat.beq (kindAt C ops i) 3) with
  | some i => (match ops[i]? with
   | some o => stepOp C I ops o fr fun fr => evDraw ops B K n (i :: done) fr
   | none => M.stuck)
  | none => (match readyNow ops done with
   | [] => K fr
   | [h] => (match ops[h]? with
    | some o => stepOp C I ops o fr fun fr => recheck C ops fr (evDraw ops B K n (h :: done) fr)
      (done.filter fun j => Nat.beq (kindAt C ops j) 1 && !waitsFor B h j)
    | none => M.stuck)
   | _ => M.stuck)
def evRegion {ρ : Type} (ops : List Oper) (draw : Bool) (fr : Fr) (K : Fr → M ρ) : M ρ :=
 cond draw
  (cond (slotsOk C ops (befores ops [])) (evDraw C I ops (befores ops []) K ops.length [] fr) M.stuck)
  (evSeq C I ops K ops fr)
def writesIn (mods : List Nat) : Code → Bool
 | .region _ ops _ => ops.toList.all fun o => match o.dst with
  | some d => elemB d mods
  | none => true
 | .seq a b => writesIn mods a && writesIn mods b
 | .cond _ a b => writesIn mods a && writesIn mods b
 | .block _ a => writesIn mods a
 | .loop a => writesIn mods a
 | _ => true
def boundIn (N : Nat) : Code → Bool
 | .region _ ops _ => ops.toList.all fun o => match o.dst with
  | some d => Nat.blt d N
  | none => true
 | .seq a b => boundIn N a && boundIn N b
 | .cond _ a b => boundIn N a && boundIn N b
 | .block _ a => boundIn N a
 | .loop a => boundIn N a
 | _ => true
def OutT : List (Option Nat × List (Nat × Sh)) → Type
 | [] => Unit
 | (_, l) :: r => ShsT (l.map (·.2)) ⊕ OutT r
def M.sum {α β ρ : Type} (f : α → M ρ) (g : β → M ρ) (x : α ⊕ β) : M ρ := match x with
 | .inl a => f a
 | .inr b => g b
def isExit : Option Nat → Exit → Bool
 | none, .ret => true
 | some i, .exit j => Nat.beq i j
 | _, _ => false
noncomputable def outTake : (l : List (Option Nat × List (Nat × Sh))) → Exit → Slots → Option (OutT l)
 | [], _, _ => none
 | (e', l) :: r, e, env => cond (isExit e' e) ((slTake l env).map Sum.inl) ((outTake r e env).map Sum.inr)
def outGo {ρ : Type} (env : Slots) (K : Exit → Slots → M ρ) : (l : List (Option Nat × List (Nat × Sh))) → OutT l → M ρ
 | [] => fun _ => M.stuck
 | (e, l) :: r => M.sum (fun y => K (match e with
    | none => .ret
    | some i => .exit i) (slPut l y env)) (outGo env K r)
def loopK (carry : List (Nat × Sh)) (exits : List (Option Nat × List (Nat × Sh))) : Exit → Fr → M (ShsT (carry.map (·.2)) ⊕ OutT exits) := fun e fr => match e with
 | .normal => M.need (slTake carry fr.env) fun st => M.pure (.inl st)
 | e => M.need (outTake exits e fr.env) fun o => M.pure (.inr o)
def annPair : Ann → Ann × Ann
 | .seq a b _ => (a, b)
 | .cond a b => (a, b)
 | .rangeFunc a b => (a, b)
 | .block a _ => (a, a)
 | .loop a _ _ _ => (a, a)
 | .defer _ b => (.leaf, b)
 | _ => (.leaf, .leaf)
def annDefer : Ann → Option (List Nat)
 | .defer mods _ => some mods
 | _ => none
def lastOp : List Oper → Option (List Oper × Oper)
 | [] => none
 | [o] => some ([], o)
 | o :: o' :: l => (lastOp (o' :: l)).map fun p => (o :: p.1, p.2)
def deferParts : Code → Option (List Oper × List Oper × Call)
 | .region _ ops false => match lastOp ops.toList with
  | some (l, o) => (match o.op, o.guard, o.dst with
   | .defer c, none, none => some (ops.toList, l, c)
   | _, _, _ => none)
  | none => none
 | _ => none
def evDeferred (fr : Fr) (c : Call) : Option (FuncId × List Value) := match c.callee, evals C.P fr c.args.toList with
 | .value f, some args => (match fr.eval C.P f with
  | some (.func (.func g) first captured) => cond (((C.P.funcs[g]?).bind (·.body)).isSome) (some (g, first.toList ++ args ++ captured.toList)) none
  | _ => none)
 | _, _ => none
def M.deferBack {ρ : Type} (v : Value) (K : M ρ) : Value → M ρ
 | .bool true => K
 | .bool false => M.throw v
 | _ => M.stuck
def M.afterDefer {ρ : Type} (m : M Unit) (call : Option Value → M Value) (K : M ρ) : M ρ :=
 M.bindP m (fun _ => M.bindP (call none) (fun _ => K) fun _ => M.stuck)
  (fun v => M.bindP (call (some v)) (M.deferBack v K) fun _ => M.stuck)
def retOnly : Exit → Fr → M Unit := fun e _ => match e with
 | .ret => M.pure ()
 | _ => M.stuck
def annJoin : Ann → Option Join
 | .seq _ _ j => j
 | .block _ j => j
 | .region j => j
 | _ => none
def exitCode : Exit → Option Code
 | .normal => none
 | .ret => some .ret
 | .exit i => some (.exit i)
def M.endLoop {ρ : Type} (l : Nat) (K : Option Code → M ρ) : M ρ := fun A => match A.get l with
 | some (.loop r) => (match r.state with
  | .busy => .stuck
  | _ => K r.pending (A.put l (.loop { r with state := .exhausted })))
 | _ => .stuck
def evCode (N : Nat) (rd : Bool) : Code → Bool → Ann → (ρ : Type) → Fr → (Exit → Fr → M ρ) → M ρ
 | .skip, _, _, _, fr, K => K .normal fr
 | .region _ ops draw, _, ann, ρ, fr, K => match annJoin ann with
  | none => evRegion C I ops.toList draw fr fun fr => K .normal fr
  | some j => cond (writesIn j.mods (.region 0 ops draw))
    (M.join (fun x : ShsT (j.sl.map (·.2)) => K .normal ⟨slPut j.sl x (drop j.mods fr.env)⟩) fun (go : ShsT (j.sl.map (·.2)) → M ρ) =>
     evRegion C I ops.toList draw fr fun fr' => M.need (slTake j.sl fr'.env) go) M.stuck
 | .seq a b, df, ann, ρ, fr, K => match annDefer ann with
  | some mods => (match deferParts a with
   | some (all, l, c) => cond (!rd && df && writesIn mods b)
     (evSeq C I all (fun fr' => M.need (evDeferred C fr' c) fun d =>
      M.afterDefer (evCode N rd b false (annPair ann).2 Unit fr' retOnly) (fun rc => I.call (.deferred d.1 d.2 rc)) (K .ret ⟨drop mods fr'.env⟩)) l fr) M.stuck
   | none => M.stuck)
  | none => match annJoin ann with
  | none => evCode N rd a df (annPair ann).1 ρ fr fun e fr' => match e with
   | .normal => evCode N rd b df (annPair ann).2 ρ fr' K
   | e => K e fr'
  | some j => cond (writesIn j.mods a)
    (M.join (fun x : ShsT (j.sl.map (·.2)) => evCode N rd b df (annPair ann).2 ρ ⟨slPut j.sl x (drop j.mods fr.env)⟩ K) fun (go : ShsT (j.sl.map (·.2)) → M ρ) =>
     evCode N rd a df (annPair ann).1 ρ fr fun e fr' => match e with
      | .normal => M.need (slTake j.sl fr'.env) go
      | e => K e fr') M.stuck
 | .cond c a b, df, ann, ρ, fr, K => match fr.eval C.P c with
  | some (.bool t) => M.ite t (evCode N rd a df (annPair ann).1 ρ (fr.setOp c (.bool true)) K) (evCode N rd b df (annPair ann).2 ρ (fr.setOp c (.bool false)) K)
  | _ => M.stuck
 | .block id a, df, ann, ρ, fr, K => match annJoin ann with
  | none => evCode N rd a df (annPair ann).1 ρ fr fun e fr' => match e with
   | .exit i => cond (Nat.beq i id) (K .normal fr') (K (.exit i) fr')
   | e => K e fr'
  | some j => cond (writesIn j.mods a)
    (M.join (fun x : ShsT (j.sl.map (·.2)) => K .normal ⟨slPut j.sl x (drop j.mods fr.env)⟩) fun (go : ShsT (j.sl.map (·.2)) → M ρ) =>
     evCode N rd a df (annPair ann).1 ρ fr fun e fr' => match e with
      | .normal => M.need (slTake j.sl fr'.env) go
      | .exit i => cond (Nat.beq i id) (M.need (slTake j.sl fr'.env) go) (K (.exit i) fr')
      | e => K e fr') M.stuck
 | .loop a, _, ann, _, fr, K => match ann with
  | .loop aa mods carry exits => cond (writesIn mods a)
    (M.need (slTake carry fr.env) fun st =>
     M.bind (I.loop (σ := ShsT (carry.map (·.2))) (ρ := OutT exits) (fun st =>
       evCode N rd a false aa (ShsT (carry.map (·.2)) ⊕ OutT exits) ⟨slPut carry st (drop mods fr.env)⟩ (loopK carry exits)) st)
      (outGo (drop mods fr.env) (fun e env => K e ⟨env⟩) exits)) M.stuck
  | _ => M.stuck
 | .rangeFunc g ps assign body, _, ann, _, fr, K => match fr.eval C.P g with
  | some (.func (.func gf) first captured) => cond (!rd && (C.ext gf).isNone)
   (M.new (.loop { state := .ready, pending := none, bound := N, env := fr.env, params := ps.toList, assign := assign, body := body, ann := ann }) fun l =>
    callF C I gf (first.toList ++ [.func (.yield l) #[] #[]] ++ captured.toList) fun _ =>
     M.endLoop l fun p => match p with
      | none => K .normal fr
      | some .ret => K .ret fr
      | some (.exit i) => K (.exit i) fr
      | some _ => M.stuck) M.stuck
  | _ => M.stuck
 | .exit i, _, _, _, fr, K => K (.exit i) fr
 | .ret, _, _, _, fr, K => K .ret fr
 | _, _, _, _, _, _ => M.stuck
def argSlots : Nat → List Value → Slots
 | _, [] => []
 | i, v :: vs => (i, v) :: argSlots (i + 1) vs
def evResults {ρ : Type} (fr : Fr) (K : List Value → M ρ) : List ResultVar → M ρ
 | [] => K []
 | .tmp t :: l => M.need (look t fr.env) fun v => evResults fr (fun vs => K (v :: vs)) l
 | .cell a t :: l => (match look a fr.env, sizeT C.P t with
  | some (.pointer p), some n => M.deref p fun a => M.load (shT C.P t) n a fun x => evResults fr (fun vs => K ((shT C.P t).inj x :: vs)) l
  | _, _ => M.stuck)
def oneOf : List Value → Value
 | [v] => v
 | vs => .tuple ⟨vs⟩
def evBody (f : FuncId) (args : List Value) : M Value := match C.P.funcs[f]? with
 | none => M.stuck
 | some fn => match fn.body with
  | none => M.stuck
  | some c => cond (boundIn fn.ntmps c) (evCode C I fn.ntmps false c true (C.ann f) Value ⟨argSlots 0 args⟩ fun e fr => match e with
   | .normal => evResults C fr (fun vs => M.pure (oneOf vs)) fn.results.toList
   | .ret => evResults C fr (fun vs => M.pure (oneOf vs)) fn.results.toList
   | .exit _ => M.stuck) M.stuck
def recOps : List Oper → Fr → Option Fr
 | [], fr => some fr
 | o :: l, fr => match o.guard, o.op with
  | none, .assign x => (fr.eval C.P x).bind fun v => recOps l (fr.putDst o.dst v)
  | none, .move x => (fr.eval C.P x).bind fun v => recOps l (fr.putDst o.dst v)
  | _, _ => none
def recFirst (rc : Option Value) (ops : List Oper) (fr : Fr) : Option Fr := match ops with
 | o :: l => (match o.guard, o.op with
  | none, .call c => (match c.callee with
   | .builtin .recover => recOps C l (fr.putDst o.dst (rc.getD .nilIface))
   | _ => none)
  | _, _ => none)
 | [] => none
def recEnd (b : Bool) : Exit → Fr → M Value := fun e _ => match e with
 | .exit _ => M.stuck
 | _ => M.pure (.bool b)
def evBodyD (f : FuncId) (args : List Value) (rc : Option Value) : M Value := match C.P.funcs[f]? with
 | none => M.stuck
 | some fn => match fn.body with
  | some (.seq (.region i ops false) c) => cond (boundIn fn.ntmps (.seq (.region i ops false) c) && fn.results.isEmpty)
    (M.need (recFirst C rc ops.toList ⟨argSlots 0 args⟩) fun fr => evCode C I fn.ntmps true c false (annPair (C.ann f)).2 Value fr (recEnd rc.isSome)) M.stuck
  | _ => M.stuck
def M.setLoop {ρ : Type} (l : Nat) (s : LoopState) (p : Option Code) (K : M ρ) : M ρ := fun A => match A.get l with
 | some (.loop r) => K (A.put l (.loop { r with state := s, pending := p }))
 | _ => .stuck
def M.beginLoop {ρ : Type} (l : Nat) (K : M ρ) : M ρ := fun A => match A.get l with
 | some (.loop r) => (match r.state with
  | .ready => K (A.put l (.loop { r with state := .busy }))
  | _ => .stuck)
 | _ => .stuck
def bindParams : List Tmp → List Value → Slots → Option Slots
 | [], [], e => some e
 | t :: ts, v :: vs, e => bindParams ts vs ((t, v) :: e)
 | _, _, _ => none
def roundEnd (l : Nat) : Exit → Fr → M Value := fun e _ => match exitCode e with
 | none => M.setLoop l .ready none (M.pure (.bool true))
 | some c => M.setLoop l .done (some c) (M.pure (.bool false))
def roundK (l : Nat) (r : ALoop) : Exit → Fr → M Value := fun e fr => match e with
 | .normal => M.beginLoop l (evCode C I r.bound true r.body false (annPair r.ann).2 Value fr (roundEnd l))
 | _ => M.stuck
def evRound (l : Nat) (args : List Value) : M Value := fun A => match A.get l with
 | some (.loop r) => (match r.state, bindParams r.params args r.env with
  | .ready, some env => cond (boundIn r.bound r.assign && boundIn r.bound r.body && r.params.all (Nat.blt · r.bound))
   (M.bindP (evCode C I r.bound true r.assign false (annPair r.ann).1 Value ⟨env⟩ (roundK C I l r)) M.pure (fun _ => M.stuck)) M.stuck A
  | _, _ => .stuck)
 | _ => .stuck
def evTask : Task → M Value
 | .call f args => evBody C I f args
 | .round l args => evRound C I l args
 | .deferred f args rc => evBodyD C I f args rc
end
def whileN {σ ρ : Type} (f : σ → M (σ ⊕ ρ)) : Nat → σ → M ρ
 | 0, _ => M.stuck
 | n + 1, s => M.bind (f s) fun x => match x with
  | .inl s' => whileN f n s'
  | .inr r => M.pure r
abbrev LoopI := {σ ρ : Type} → (σ → M (σ ⊕ ρ)) → σ → M ρ
abbrev XT := Task → M Value
abbrev SL := Option Addr × Nat × Nat
abbrev PA := Option Addr
def iter (C : Cfg) (L : LoopI) : Nat → Task → M Value
 | 0, _ => M.stuck
 | n + 1, t => evTask C { call := iter C L n, loop := L } t
end
end Go.Eng
