/-
 The engine, part 1: what a function of the program comes to over an abstract heap; each part is proved against the model.
-/
import Derived.Test.YtlcigkdflbfdgaaGreatDoorEng0
import Derived.Laws.Cells
import Derived.Laws.Sem
namespace Go.Eng
open Go
def isAggT (P : Program) (t : TypeId) : Bool := match P.underlying t with
 | some (.struct _) => true
 | some (.array _ _) => true
 | _ => false
def sizeT (P : Program) (t : TypeId) : Option Nat := match P.underlying t with
 | some _ => (P.info? t).map (·.size)
 | none => none
def bytesT (P : Program) (t : TypeId) : Option Nat := (P.info? t).map (·.bytes)
def zeroT (P : Program) (t : TypeId) : Option Value := (P.info? t).bind (·.zero)
def cellT (P : Program) (t : TypeId) : Cell := match P.underlying t with
 | some .bool => .bool
 | some (.int k) => .int k
 | some .string => .string
 | some (.pointer _) => .ptr
 | some .unsafePointer => .ptr
 | some (.slice _) => .slice
 | some (.map _ _) => .map
 | _ => .val
def flatT (P : Program) : Nat → TypeId → List Cell
 | 0, _ => []
 | n + 1, t => match P.underlying t with
  | some (.struct fs) => fs.toList.flatMap fun f => flatT P n f.type
  | some (.array k e) => (List.replicate k (flatT P n e)).flatten
  | _ => [cellT P t]
def shT (P : Program) (t : TypeId) : Sh :=
 cond (isAggT P t) (cond (Nat.ble ((sizeT P t).getD 0) 24) (.agg (flatT P 8 t)) .raw) (.cell (cellT P t))
def plain1 : Value → Bool
 | .bool _ => true | .int _ _ => true | .float _ _ => true | .complex _ _ _ => true | .string _ => true
 | .pointer none => true | .slice none 0 0 => true | .map none => true | .chan none => true | .nilFunc => true | .nilIface => true
 | .func (.func _) first captured => first.isEmpty && captured.isEmpty
 | _ => false
def plain2 : Value → Bool
 | .iface _ v => plain1 v
 | v => plain1 v
def plain : Value → Bool
 | .agg cs => cs.toList.all plain2
 | .tuple cs => cs.toList.all plain2
 | v => plain2 v
def notHole : Value → Bool
 | .tuple _ => false
 | _ => true
noncomputable section
namespace AW
def cellsAt (A : AW) (a : Addr) (n : Nat) : Option (List Value) := match A.get a.block with
 | some (.cells r _ _ _ _) => cond a.spot.isNone (r.read a.off n) none
 | _ => none
def peek (A : AW) (a : Addr) (n : Nat) : Option (List Value) := match A.get a.block with
 | some (.cells r _ _ _ _) => cond a.spot.isNone (r.read a.off n) none
 | some (.pin r _) => cond a.spot.isNone (match r.read a.off n with
  | some vs => cond (vs.all notHole) (some vs) none
  | none => none) none
 | _ => none
def store (A : AW) (a : Addr) (vs : List Value) : Option AW := match A.get a.block with
 | some (.cells r e g fz ish) => cond (a.spot.isNone && (Nat.ble fz.2 a.off || Nat.ble (a.off + vs.length) fz.1) && vs.all Value.oneCell')
   (match r.write a.off vs with
    | some r' => some (A.put a.block (.cells r' e g fz ish))
    | none => none) none
 | _ => none
def elems (A : AW) (esz n : Nat) : Value → Option (List Value)
 | .slice (some a) _ _ => A.peek a (n * esz)
 | .slice none _ _ => some []
 | .string s => some ((s.data.toList.take n).map fun b => .int .u8 b.toNat)
 | _ => none
end AW
def lenV : Value → Option Nat
 | .slice _ n _ => some n
 | .string s => some s.size
 | _ => none
def Sh.ofCells : (s : Sh) → List Value → Option s.T
 | .cell c, vs => match vs with
  | [v] => c.prj v
  | _ => none
 | .agg l, vs => cellsPrj l vs
 | .raw, vs => some vs
namespace M
variable {ρ : Type}
def load (s : Sh) (n : Nat) (a : Addr) (k : s.T → M ρ) : M ρ := fun A => match (A.peek a n).bind s.ofCells with
 | some x => k x A
 | none => .stuck
def store (a : Addr) (vs : List Value) (k : M ρ) : M ρ := fun A => match A.store a vs with
 | some A' => k A'
 | none => .stuck
def new (o : AObj) (k : Nat → M ρ) : M ρ := fun A => k A.next (A.alloc o)
def deref (p : Option Addr) (k : Addr → M ρ) : M ρ := match p with
 | some a => k a
 | none => stuck
def need {α : Type} (x : Option α) (k : α → M ρ) : M ρ := match x with
 | some a => k a
 | none => stuck
def eqPtr (a b : Option Addr) (k : Bool → M ρ) : M ρ := fun A => match a, b with
 | none, b => k b.isNone A
 | some _, none => k false A
 | some a, some b => match A.get a.block, A.get b.block with
  | some (.cells _ _ _ _ i), some (.cells _ _ _ _ j) => cond (Nat.beq a.block b.block || (!i && !j)) (k (decide (a = b)) A) .stuck
  | _, _ => .stuck
end M
def AW.appendL (A : AW) (elem : TypeId) (esz bytes : Nat) (base : Option Addr) (len cap : Nat) (n : Nat) (new : List Value) : Option (Value × AW) :=
   cond (Nat.ble (len + n) cap)
    (match base with
     | none => some (.slice none (len + n) cap, A)
     | some a => match A.store (a.add (len * esz)) new with
      | some A' => some (.slice (some a) (len + n) cap, A')
      | none => none)
    (cond (Nat.ble 1 esz && Nat.ble 1 bytes && Nat.ble ((2 * (len + n) + 200) * bytes) (2 ^ 48) && Nat.beq new.length (n * esz) && new.all Value.oneCell')
     (match base with
      | none => some (.slice (some ⟨A.next, 0, none⟩) (len + n) (len + n), A.alloc (.cells (Row.ofList new) elem true (0, 0) false))
      | some a => match A.get a.block with
       | some (.cells r e g fz ish) =>
        cond (a.spot.isNone && Nat.ble (a.off + len * esz) r.n)
         (cond g
          (cond (Nat.beq a.off 0 && Nat.beq e elem && Nat.ble fz.2 (len * esz) && Nat.beq r.n (cap * esz))
           (some (.slice (some ⟨A.next, 0, none⟩) (len + n) (len + n), (A.del a.block).alloc (.cells (r.app a.off (len * esz) new) elem true fz ish))) none)
          (some (.slice (some ⟨A.next, 0, none⟩) (len + n) (len + n), A.alloc (.cells (r.app a.off (len * esz) new) elem true (0, 0) false)))) none
       | _ => none)
     none)
def AW.append (A : AW) (elem : TypeId) (esz bytes : Nat) (base : Option Addr) (len cap : Nat) (x : Value) : Option (Value × AW) :=
 match lenV x with
 | none => none
 | some n => match A.elems esz n x with
  | none => none
  | some new => A.appendL elem esz bytes base len cap n new
def M.appendZ {ρ : Type} (elem : TypeId) (esz bytes : Nat) (base : Option Addr) (len cap : Nat) (x : Int) (zs : List Value) (k : Option Addr → Nat → Nat → M ρ) : M ρ := fun A =>
 cond (decide (0 ≤ x) && decide (x * (bytes : Int) ≤ 2 ^ 48) && decide (x ≤ 2 ^ 48)) (match A.appendL elem esz bytes base len cap x.toNat (Row.repL zs x.toNat) with
 | some (.slice b n c, A') => k b n c A'
 | _ => .stuck) .stuck
def M.append {ρ : Type} (elem : TypeId) (esz bytes : Nat) (base : Option Addr) (len cap : Nat) (x : Value) (k : Option Addr → Nat → Nat → M ρ) : M ρ := fun A =>
 match A.append elem esz bytes base len cap x with
 | some (.slice b n c, A') => k b n c A'
 | _ => .stuck
def M.cap {ρ : Type} (a : Option Addr) (c : Nat) (k : Nat → M ρ) : M ρ := match a with
 | none => k c
 | some b => fun A => match A.get b.block with
  | some (.cells _ _ g _ _) => cond g .stuck (k c A)
  | _ => .stuck
def M.copy {ρ : Type} (esz : Nat) (base : Option Addr) (dlen : Nat) (x : Value) (k : Nat → M ρ) : M ρ := fun A =>
 match lenV x with
 | none => .stuck
 | some m => match A.elems esz (Nat.min m dlen) x with
  | none => .stuck
  | some cs => match base with
   | none => k (Nat.min m dlen) A
   | some a => match A.store a cs with
    | some A' => k (Nat.min m dlen) A'
    | none => .stuck
def bytesOfCells : List Value → Option (List UInt8)
 | [] => some []
 | .int .u8 n :: l => (bytesOfCells l).map (UInt8.ofNat n.toNat :: ·)
 | _ => none
def M.toStr {ρ : Type} (base : Option Addr) (len : Nat) (k : ByteArray → M ρ) : M ρ := fun A =>
 match base with
 | none => k ⟨#[]⟩ A
 | some a => match (A.peek a len).bind bytesOfCells with
  | some l => k ⟨⟨l⟩⟩ A
  | none => .stuck
def M.ofStr {ρ : Type} (elem : TypeId) (s : ByteArray) (k : Option Addr → Nat → Nat → M ρ) : M ρ := fun A =>
 k (some ⟨A.next, 0, none⟩) s.size s.size (A.alloc (.cells (Row.ofList (s.data.toList.map fun b => .int .u8 b.toNat)) elem true (0, 0) true))
def M.mark {ρ : Type} (a : Addr) (k : M ρ) : M ρ := fun A => match A.get a.block with
 | some (.cells cs e g fz _) => cond (Nat.beq fz.1 fz.2) (k (A.put a.block (.cells cs e g fz true))) .stuck
 | _ => .stuck
def AW.freezeRow (A : AW) (u : TypeId) (a : Addr) (n : Nat) : Option (ByteArray × AW) := match A.get a.block with
 | some (.cells cs e g fz ish) => cond (Nat.beq e u && !(ish && Nat.beq fz.1 fz.2)) (match (A.cellsAt a n).bind bytesOfCells with
   | some l => some (⟨⟨l⟩⟩, A.put a.block (.cells cs e g (cond (Nat.beq fz.1 fz.2) (a.off, a.off + n) (min fz.1 a.off, max fz.2 (a.off + n))) true))
   | none => none) none
 | _ => none
def M.unsafeStr {ρ : Type} (u : TypeId) (isByte : Bool) (p : Option Addr) (n : Int) (k : ByteArray → M ρ) : M ρ := fun A =>
 match p with
 | none => cond (decide (n = 0)) (k ⟨#[]⟩ A) .stuck
 | some a => cond (decide (n = 0)) (k ⟨#[]⟩ A) (cond (isByte && decide (0 < n) && decide (n < 9223372036854775807)) (match A.freezeRow u a n.toNat with
  | some (s, A') => k s A'
  | none => .stuck) .stuck)
def seq (a b : ByteArray) : Bool := a.data.toList == b.data.toList
def bitsV (op : BinOp) (k : IntKind) (x y : Int) : Int :=
 let a := BitVec.ofInt k.bits x
 let b := BitVec.ofInt k.bits y
 match op with
 | .and => k.wrap (a &&& b).toNat
 | .or => k.wrap (a ||| b).toNat
 | .xor => k.wrap (a ^^^ b).toNat
 | _ => k.wrap (a &&& ~~~b).toNat
noncomputable section
def bitW (op : BinOp) (F : Nat → Nat → Nat) (k : IntKind) (a b : Int) : Int := Int.rec (motive := fun _ => Int) (fun m => Int.rec (motive := fun _ => Int)
 (fun n => Bool.rec (motive := fun _ => Int) (bitsV op k (Int.ofNat m) (Int.ofNat n)) (Bool.rec (motive := fun _ => Int) (bitsV op k (Int.ofNat m) (Int.ofNat n)) (forceN (F m n) fun x => Int.ofNat x) (Nat.ble n (topK k))) (Nat.ble m (topK k)))
 (fun n => bitsV op k (Int.ofNat m) (Int.negSucc n)) b) (fun m => bitsV op k (Int.negSucc m) b) a
def xorW := bitW .xor Nat.xor
def andW := bitW .and Nat.land
def orW := bitW .or Nat.lor
end
def tiles (P : Program) : List Field → Nat → Option Nat
 | [], i => some i
 | f :: l, i => cond (Nat.beq f.offset i) (match sizeT P f.type with
  | some s => tiles P l (i + s)
  | none => none) none
def isOne : Option Nat → Bool
 | some 1 => true
 | _ => false
def plainEq (P : Program) : Nat → TypeId → Bool
 | 0, _ => false
 | n + 1, t => match P.underlying t with
  | some .bool => isOne (sizeT P t)
  | some (.int _) => isOne (sizeT P t)
  | some .string => isOne (sizeT P t)
  | some (.struct fs) => !P.stoodInHeld t && fs.toList.all (fun f => !(f.name == "_") && plainEq P n f.type) && (match tiles P fs.toList 0, sizeT P t with
    | some a, some b => Nat.beq a b
    | _, _ => false)
  | some (.array k e) => plainEq P n e && (match sizeT P e, sizeT P t with
    | some a, some b => Nat.beq (k * a) b
    | _, _ => false)
  | _ => false
def fitArr (g : List Value → Bool) (s : Nat) : Nat → List Value → Bool
 | 0, _ => true
 | k + 1, X => g (X.take s) && fitArr g s k (X.drop s)
def fitFs (P : Program) (g : TypeId → List Value → Bool) : List Field → List Value → Bool
 | [], _ => true
 | f :: l, X => match sizeT P f.type with
  | some s => g f.type (X.take s) && fitFs P g l (X.drop s)
  | none => false
def fitT (P : Program) : Nat → TypeId → List Value → Bool
 | 0, _, _ => false
 | n + 1, t, X => match P.underlying t with
  | some .bool => (match X with
   | [.bool _] => true
   | _ => false)
  | some (.int k) => (match X with
   | [.int k' _] => decide (k = k')
   | _ => false)
  | some .string => (match X with
   | [.string _] => true
   | _ => false)
  | some (.struct fs) => fitFs P (fitT P n) fs.toList X
  | some (.array k e) => (match sizeT P e with
   | some s => fitArr (fitT P n e) s k X
   | none => false)
  | _ => false
def eq1 : Value → Value → Bool
 | .bool a, .bool b => a == b
 | .int _ a, .int _ b => a == b
 | .string a, .string b => seq a b
 | _, _ => false
def eqCells : List Value → List Value → Bool
 | [], [] => true
 | [x], [y] => eq1 x y
 | x :: xs, y :: ys => eq1 x y && eqCells xs ys
 | _, _ => false
section
variable {ρ : Type} (P : Program)
def aEql (t : TypeId) (cx cy : Bool) (vx vy : Value) (K : Bool → M ρ) : M ρ :=
 match vx, vy with
 | .int k a, .int k' b => M.guard (decide (k = k')) (K (eqB a b))
 | .string a, .string b => K (seq a b)
 | .bool a, .bool b => (match P.underlying t with
  | some .bool => K (a == b)
  | _ => M.stuck)
 | .pointer a, .pointer b => (match P.underlying t with
  | some (.pointer e) => (match sizeT P e with
   | some (_ + 1) => M.eqPtr a b K
   | _ => M.stuck)
  | _ => M.stuck)
 | .slice a _ _, .slice b _ _ => (match P.underlying t with
  | some (.slice _) => (match b with
   | none => K a.isNone
   | some _ => (match a with
    | none => K false
    | some _ => M.stuck))
  | _ => M.stuck)
 | .map a, .map b => (match P.underlying t with
  | some (.map _ _) => (match b with
   | none => K a.isNone
   | some _ => (match a with
    | none => K false
    | some _ => M.stuck))
  | _ => M.stuck)
 | .nilIface, .nilIface => (match P.underlying t with
  | some (.interface _) => M.guard (cx || cy) (K true)
  | _ => M.stuck)
 | .nilIface, .iface _ _ => (match P.underlying t with
  | some (.interface _) => K false
  | _ => M.stuck)
 | .iface _ _, .nilIface => (match P.underlying t with
  | some (.interface _) => K false
  | _ => M.stuck)
 | .nilFunc, .nilFunc => (match P.underlying t with
  | some (.func _ _ _) => K true
  | _ => M.stuck)
 | .nilFunc, .func _ _ _ => (match P.underlying t with
  | some (.func _ _ _) => K false
  | _ => M.stuck)
 | .func _ _ _, .nilFunc => (match P.underlying t with
  | some (.func _ _ _) => K false
  | _ => M.stuck)
 | .agg xs, .agg ys => M.guard (plainEq P 8 t && fitT P 8 t xs.toList && fitT P 8 t ys.toList && (match sizeT P t with
   | some s => Nat.beq s xs.toList.length && Nat.beq s ys.toList.length && isAggT P t
   | none => false)) (K (eqCells xs.toList ys.toList))
 | _, _ => M.stuck
def aArith (op : BinOp) (vx vy : Value) (K : Value → M ρ) : M ρ :=
 match vx, vy with
 | .int k a, .int k' b =>
  match op with
  | .shl => M.guard (decide (0 ≤ b)) (K (.int k (k.wrap (a * 2 ^ (min b.toNat k.bits)))))
  | .shr => M.guard (decide (0 ≤ b)) (K (.int k (a.fdiv (2 ^ (min b.toNat k.bits)))))
  | .add => M.guard (decide (k = k')) (K (.int k (addW k a b)))
  | .sub => M.guard (decide (k = k')) (K (.int k (subW k a b)))
  | .mul => M.guard (decide (k = k')) (K (.int k (mulW k a b)))
  | .quo => M.guard (decide (k = k') && !(decide (b = 0))) (K (.int k (k.wrap (a.tdiv b))))
  | .rem => M.guard (decide (k = k') && !(decide (b = 0))) (K (.int k (a.tmod b)))
  | .and => M.guard (decide (k = k')) (K (.int k (andW k a b)))
  | .or => M.guard (decide (k = k')) (K (.int k (orW k a b)))
  | .xor => M.guard (decide (k = k')) (K (.int k (xorW k a b)))
  | .andNot => M.guard (decide (k = k')) (K (.int k (bitsV .andNot k a b)))
  | .lss => M.guard (decide (k = k')) (K (.bool (ltB a b)))
  | .leq => M.guard (decide (k = k')) (K (.bool (leB a b)))
  | .gtr => M.guard (decide (k = k')) (K (.bool (ltB b a)))
  | .geq => M.guard (decide (k = k')) (K (.bool (leB b a)))
  | _ => M.stuck
 | .string a, .string b =>
  match op with
  | .add => M.guard (Nat.ble (a.size + b.size) 9223372036854775807) (K (.string (a ++ b)))
  | .lss => K (.bool (Op.bytesLess a.data.toList b.data.toList))
  | .leq => K (.bool (Op.bytesLess a.data.toList b.data.toList || seq a b))
  | .gtr => K (.bool !(Op.bytesLess a.data.toList b.data.toList || seq a b))
  | .geq => K (.bool !(Op.bytesLess a.data.toList b.data.toList))
  | _ => M.stuck
 | _, _ => M.stuck
def aBin (op : BinOp) (t : TypeId) (cx cy : Bool) (vx vy : Value) (K : Value → M ρ) : M ρ :=
 match op with
 | .eql => aEql P t cx cy vx vy fun b => K (.bool b)
 | .neq => aEql P t cx cy vx vy fun b => K (.bool !b)
 | op => aArith op vx vy K
def aUn (op : UnOp) (v : Value) (K : Value → M ρ) : M ρ :=
 match op, v with
 | .neg, .int k n => K (.int k (k.wrap (0 - n)))
 | .xor, .int k n => K (.int k (bitsV .xor k (if k.signed then -1 else k.max) n))
 | .not, .bool b => K (.bool !b)
 | _, _ => M.stuck
def pos : Option Nat → Bool
 | some (_ + 1) => true
 | _ => false
def aConvert (src dst : TypeId) (v : Value) (K : Value → M ρ) : M ρ :=
 match P.underlying src, P.underlying dst with
 | some _, some (.int k) => (match v with
  | .int _ n => K (.int k (wrapW k n))
  | _ => M.stuck)
 | some (.slice e), some .string => (match P.underlying e with
  | some (.int .u8) => (match v with
   | .slice a n _ => M.toStr a n fun s => K (.string s)
   | _ => M.stuck)
  | _ => M.stuck)
 | some _, some .string => (match v with
  | .int _ n => K (.string (Utf8.encode n))
  | .string s => K (.string s)
  | _ => M.stuck)
 | some .string, some (.slice e) => (match P.underlying e with
  | some (.int .u8) => (match v with
   | .string s => cond (isOne (sizeT P e)) (M.ofStr e s fun a n c => K (.slice a n c)) M.stuck
   | _ => M.stuck)
  | _ => M.stuck)
 | some (.slice _), some (.slice e) => (match P.underlying e, v with
  | some (.int .u8), .slice (some a) n c => cond (Nat.beq src dst && Nat.ble 1 c) (M.mark a (K (.slice (some a) n c))) M.stuck
  | _, _ => M.stuck)
 | some (.pointer t), some .unsafePointer => (match v with
  | .pointer none => K (.pointer none)
  | .pointer (some a) => fun A => (match A.get a.block with
   | some (.cells cs _ _ _ _) => cond (a.spot.isNone && Nat.ble (a.off + 1) cs.n && pos (sizeT P t)) (K (.pointer (some a)) A) .stuck
   | _ => .stuck)
  | _ => M.stuck)
 | some .unsafePointer, some (.pointer u) => (match v with
  | .pointer none => K (.pointer none)
  | .pointer (some a) => fun A => (match A.get a.block with
   | some (.cells cs e g _ _) => cond (!g && pos (sizeT P u) && liesAt P P.depth e (cs.n / P.cellsOf e) a.off u 1) (K (.pointer (some a)) A) .stuck
   | _ => .stuck)
  | _ => M.stuck)
 | _, _ => M.stuck
def fillA (place : Nat → Option (Nat × Nat)) (cells : List Value) : List (Nat × Value) → Option (List Value)
 | [] => some cells
 | (i, v) :: rest => match place i with
  | none => none
  | some (off, size) => cond (Nat.beq v.cells.toList.length size && Nat.ble (off + size) cells.length) (fillA place (setAt cells off v.cells.toList) rest) none
def fieldsT (t : TypeId) : Option (List Field) := match P.underlying t with
 | some (.struct fs) => some fs.toList
 | _ => none
def placesT : List Field → Option (List (Nat × Nat))
 | [] => some []
 | f :: l => match sizeT P f.type, placesT l with
  | some s, some ps => some ((f.offset, s) :: ps)
  | _, _ => none
def aBuild (t : TypeId) (parts : List (Nat × Value)) (K : Value → M ρ) : M ρ :=
 match zeroT P t with
 | none => M.stuck
 | some z => match P.underlying t with
  | some (.struct fs) => (match placesT P fs.toList with
   | some ps => M.need (fillA (fun i => ps[i]?) z.cells.toList parts) fun cs => K (.agg ⟨cs⟩)
   | none => M.stuck)
  | some (.array _ e) => (match sizeT P e with
   | some s => M.need (fillA (fun i => some (i * s, s)) z.cells.toList parts) fun cs => K (.agg ⟨cs⟩)
   | none => M.stuck)
  | _ => M.stuck
abbrev repeatA := Row.repL
def aBuildSlice (t : TypeId) (len : Nat) (parts : List (Nat × Value)) (K : Value → M ρ) : M ρ :=
 match P.underlying t with
 | some (.slice e) => (match sizeT P e, zeroT P e with
  | some s, some z => cond (Nat.ble (len * s) 16777216 && Nat.beq z.cells.toList.length s && Nat.ble 1 s)
    (M.need (fillA (fun i => some (i * s, s)) (repeatA z.cells.toList len) parts) fun cs =>
     M.new (.cells (Row.ofList cs) e false (0, 0) false) fun b => K (.slice (some ⟨b, 0, none⟩) len len)) M.stuck
  | _, _ => M.stuck)
 | _ => M.stuck
def aMakeSlice (t : TypeId) (vl vc : Value) (K : Value → M ρ) : M ρ :=
 match P.underlying t with
 | some (.slice e) => (match sizeT P e, bytesT P e, zeroT P e with
  | some s, some bytes, some z => (match vl, vc with
   | .int _ l, .int _ c => M.guard (Nat.ble 1 bytes && Nat.beq z.cells.toList.length s && Nat.ble 1 s && decide (0 ≤ l) && decide (l ≤ c) && decide ((bytes : Int) * c ≤ 2 ^ 48))
     (M.new (.cells (Row.rep z.cells.toList c.toNat) e false (0, 0) false) fun b => K (.slice (some ⟨b, 0, none⟩) l.toNat c.toNat))
   | _, _ => M.stuck)
  | _, _, _ => M.stuck)
 | _ => M.stuck
def bounds3 (len cap : Nat) (lo hi mx : Option Value) (K : Nat → Nat → Nat → M ρ) : M ρ :=
 let low (h m : Nat) : M ρ := match lo with
  | none => K 0 h m
  | some (.int _ l) => M.guard (upB l h) (K l.toNat h m)
  | _ => M.stuck
 let high (m : Nat) (top : Nat) : M ρ := match hi with
  | none => cond mx.isNone (low len m) M.stuck
  | some (.int _ h) => M.guard (upB h top) (low h.toNat m)
  | _ => M.stuck
 match mx with
 | none => high cap cap
 | some (.int _ m) => M.guard (upB m cap) (high m.toNat m.toNat)
 | _ => M.stuck
def aSlice (t : TypeId) (v : Value) (lo hi mx : Option Value) (K : Value → M ρ) : M ρ :=
 match P.underlying t, v with
 | some .string, .string s => cond mx.isNone (bounds3 s.size s.size lo hi none fun l h _ => K (.string (s.extract l h))) M.stuck
 | some (.slice e), .slice a n c => (match sizeT P e with
  | some sz => bounds3 n c lo hi mx fun l h m => K (.slice (a.map (·.add (l * sz))) (h - l) (m - l))
  | none => M.stuck)
 | some (.array k e), .pointer p => (match sizeT P e with
  | some sz => M.deref p fun a => bounds3 k k lo hi mx fun l h m => K (.slice (some (a.add (l * sz))) (h - l) (m - l))
  | none => M.stuck)
 | _, _ => M.stuck
def aFieldAddr (s : TypeId) (v : Value) (i : Nat) (K : Value → M ρ) : M ρ :=
 match fieldsT P s with
 | some fs => (match fs[i]? with
  | some f => (match sizeT P f.type, v with
   | some (_ + 1), .pointer p => M.deref p fun a => K (.pointer (some (a.add f.offset)))
   | _, _ => M.stuck)
  | none => M.stuck)
 | none => M.stuck
def aPart (t : TypeId) (cs : List Value) (off : Nat) (K : Value → M ρ) : M ρ :=
 match sizeT P t with
 | some n => cond (isAggT P t) (cond (Nat.ble (off + n) cs.length) (K (.agg ⟨(cs.drop off).take n⟩)) M.stuck)
   (M.need ((cs[off]?).bind (shT P t).prj) fun x => K ((shT P t).inj x))
 | none => M.stuck
def aField (t : TypeId) (v : Value) (i : Nat) (K : Value → M ρ) : M ρ :=
 match fieldsT P t, v with
 | some fs, .agg cs => (match fs[i]? with
  | some f => aPart P f.type cs.toList f.offset K
  | none => M.stuck)
 | _, _ => M.stuck
def aIndexAddr (t : TypeId) (v ix : Value) (K : Value → M ρ) : M ρ :=
 match P.underlying t, v, ix with
 | some (.array n e), .pointer p, .int _ i => (match sizeT P e with
  | some sz => M.deref p fun a => M.guard (inB i n) (K (.pointer (some (a.add (i.toNat * sz)))))
  | none => M.stuck)
 | some (.slice e), .slice p n _, .int _ i => (match sizeT P e with
  | some sz => M.guard (inB i n) (M.deref p fun a => K (.pointer (some (a.add (i.toNat * sz)))))
  | none => M.stuck)
 | _, _, _ => M.stuck
def byteAt (s : ByteArray) (i : Int) : Int := ((s.data.toList.getD i.toNat 0).toNat : Int)
def aIndex (t : TypeId) (v ix : Value) (K : Value → M ρ) : M ρ :=
 match P.underlying t, v, ix with
 | some (.array n e), .agg cs, .int _ i => (match sizeT P e with
  | some sz => M.guard (inB i n) (aPart P e cs.toList (i.toNat * sz) K)
  | none => M.stuck)
 | some .string, .string s, .int _ i => M.guard (inB i s.size) (K (.int .u8 (byteAt s i)))
 | _, _, _ => M.stuck
def keyEq (kind : TypeDesc) (a b : Value) : Option Bool := Instr.sameNow kind a b
def findA (kind : TypeDesc) (k : Value) : List MapEntry → Nat → Option (Option (Nat × Value))
 | [], _ => some none
 | e :: es, i => match keyEq kind k e.key with
  | some true => some (some (i, e.val))
  | some false => findA kind k es (i + 1)
  | none => none
def keyOk : TypeDesc → Value → Bool
 | .int k, .int k' _ => decide (k = k')
 | .string, .string _ => true
 | .bool, .bool _ => true
 | _, _ => false
def AW.entries (A : AW) (m : Option Nat) : Option (List MapEntry × Nat) := match m with
 | none => some ([], 0)
 | some r => match A.get r with
  | some (.map es clock) => some (es, clock)
  | _ => none
def M.mapGet {ρ : Type} (kind : TypeDesc) (m : Option Nat) (key : Value) (k : Option Value → M ρ) : M ρ := fun A =>
 match A.entries m with
 | some (es, _) => (match findA kind key es 0 with
  | some (some (_, v)) => k (some v) A
  | some none => k none A
  | none => .stuck)
 | none => .stuck
def setVal (es : List MapEntry) (i : Nat) (key v : Value) : List MapEntry := match es, i with
 | [], _ => []
 | e :: es, 0 => { e with key, val := v } :: es
 | e :: es, i + 1 => e :: setVal es i key v
def M.mapPut {ρ : Type} (kind : TypeDesc) (m : Option Nat) (key v : Value) (k : M ρ) : M ρ := fun A =>
 match m with
 | none => .stuck
 | some r => match A.get r with
  | some (.map es clock) => (match findA kind key es 0 with
   | some (some (i, _)) => k (A.put r (.map (setVal es i key v) clock))
   | some none => k (A.put r (.map (es ++ [{ key, val := v, born := clock }]) (clock + 1)))
   | none => .stuck)
  | _ => .stuck
def M.mapDel {ρ : Type} (kind : TypeDesc) (m : Option Nat) (key : Value) (k : M ρ) : M ρ := fun A =>
 match m with
 | none => k A
 | some r => match A.get r with
  | some (.map es clock) => (match findA kind key es 0 with
   | some (some (i, _)) => k (A.put r (.map (es.eraseIdx i) clock))
   | some none => k A
   | none => .stuck)
  | _ => .stuck
def aLookup (t : TypeId) (v key : Value) (ok : Bool) (K : Value → M ρ) : M ρ :=
 match P.underlying t with
 | some (.map kt et) => (match P.underlying kt, zeroT P et, v with
  | some kind, some z, .map m => M.guard (keyOk kind key && plain z) (M.mapGet kind m key fun o => match o with
    | some x => (shT P et).prj x |> fun y => M.need y fun y => K (cond ok (.tuple #[(shT P et).inj y, .bool true]) ((shT P et).inj y))
    | none => K (cond ok (.tuple #[z, .bool false]) z))
  | _, _, _ => M.stuck)
 | _ => M.stuck
def aMapUpdate (t : TypeId) (v key x : Value) (K : M ρ) : M ρ :=
 match P.underlying t with
 | some (.map kt _) => (match P.underlying kt, v with
  | some kind, .map m => M.guard (keyOk kind key) (M.mapPut kind m key x K)
  | _, _ => M.stuck)
 | _ => M.stuck
def aRange (t : TypeId) (v : Value) (K : Value → M ρ) : M ρ :=
 match P.underlying t, v with
 | some .string, .string s => M.new (.iter s 0) fun b => K (.pointer (some ⟨b, 0, none⟩))
 | _, _ => M.stuck
def M.next {ρ : Type} (b : Nat) (done : M ρ) (more : Int → Int → M ρ) : M ρ := fun A =>
 match A.get b with
 | some (.iter s pos) => cond (Nat.blt pos s.size) (more pos (Utf8.decode s pos).1 (A.put b (.iter s (pos + (Utf8.decode s pos).2)))) (done A)
 | _ => .stuck
def aNext (v : Value) (isString : Bool) (K : Value → M ρ) : M ρ :=
 cond isString (match v with
  | .pointer p => M.deref p fun a => M.guard (Nat.beq a.off 0) (M.next a.block (K (.tuple #[.bool false])) fun i r => K (.tuple #[.bool true, .int .i64 i, .int .i32 r]))
  | _ => M.stuck) M.stuck
def aExtract (v : Value) (i : Nat) (K : Value → M ρ) : M ρ :=
 match tupOf v with
 | some vs => (match vs[i]? with
  | some v => K v
  | none => M.stuck)
 | none => M.stuck
def aTypeAssert (v : Value) (asserted : TypeId) (ok : Bool) (K : Value → M ρ) : M ρ :=
 match P.underlying asserted with
 | some (.interface _) => M.stuck
 | some _ => (match zeroT P asserted with
  | some z => (match v with
   | .nilIface => cond (ok && plain z) (K (.tuple #[z, .bool false])) M.stuck
   | .iface t x => M.ite (Nat.beq t asserted) (M.need ((shT P asserted).prj x) fun y => K (cond ok (.tuple #[(shT P asserted).inj y, .bool true]) ((shT P asserted).inj y)))
     (cond (ok && plain z) (K (.tuple #[z, .bool false])) M.stuck)
   | _ => M.stuck)
  | none => M.stuck)
 | none => M.stuck
def aLen (t : TypeId) (v : Value) (K : Value → M ρ) : M ρ :=
 match P.underlying t, v with
 | some .string, .string s => K (.int .i64 (s.size : Int))
 | some (.array n _), _ => K (.int .i64 (n : Int))
 | some (.pointer arr), _ => (match P.underlying arr with
  | some (.array n _) => K (.int .i64 (n : Int))
  | _ => M.stuck)
 | some (.slice _), .slice _ n _ => K (.int .i64 (n : Int))
 | some (.map _ _), .map m => fun A => (match A.entries m with
  | some (es, _) => K (.int .i64 (es.length : Int)) A
  | none => .stuck)
 | _, _ => M.stuck
def minV : Value → List Value → Option Value
 | v, [] => some v
 | .int k x, .int k' y :: l => cond (decide (k = k')) (minV (.int k (if y < x then y else x)) l) none
 | _, _ => none
def maxV : Value → List Value → Option Value
 | v, [] => some v
 | .int k x, .int k' y :: l => cond (decide (k = k')) (maxV (.int k (if x < y then y else x)) l) none
 | _, _ => none
def aBuiltin (b : Builtin) (argTypes : Array TypeId) (args : List Value) (K : Value → M ρ) : M ρ :=
 match b with
 | .len => (match argTypes[0]?, args with
  | some t, [v] => aLen P t v K
  | _, _ => M.stuck)
 | .append => (match argTypes[0]?, args with
  | some t, [.slice a n c, x] => (match P.underlying t with
   | some (.slice e) => (match sizeT P e, bytesT P e, (argTypes[1]?).bind P.underlying with
    | some s, some by_, some u => cond ((match u with
      | .int _ => false
      | _ => true) && (match zeroT P e with
      | some z => Nat.beq z.cells.toList.length s
      | none => false)) (M.append e s by_ a n c x fun a n c => K (.slice a n c)) (match u, x, zeroT P e with
      | .int _, .int _ m, some z => cond (Nat.beq z.cells.toList.length s && plain z) (M.appendZ e s by_ a n c m z.cells.toList fun a n c => K (.slice a n c)) M.stuck
      | _, _, _ => M.stuck)
    | _, _, _ => M.stuck)
   | _ => M.stuck)
  | _, _ => M.stuck)
 | .copy => (match argTypes[0]?, args with
  | some t, [.slice a n _, x] => (match P.underlying t with
   | some (.slice e) => (match sizeT P e with
    | some s => M.copy s a n x fun m => K (.int .i64 (m : Int))
    | none => M.stuck)
   | _ => M.stuck)
  | _, _ => M.stuck)
 | .clear => (match argTypes[0]?, args with
  | some t, [.slice a n _] => (match P.underlying t with
   | some (.slice e) => (match zeroT P e with
    | some z => cond (plain z && Nat.ble 1 z.cells.toList.length) (match a with
     | none => K (.tuple #[])
     | some a => cond (Nat.ble 1 n) (M.store a (repeatA z.cells.toList n) (K (.tuple #[]))) (K (.tuple #[]))) M.stuck
    | none => M.stuck)
   | _ => M.stuck)
  | _, _ => M.stuck)
 | .cap => (match argTypes[0]?, args with
  | some t, [.slice a _ c] => (match P.underlying t with
   | some (.slice _) => M.cap a c fun c => K (.int .i64 (c : Int))
   | _ => M.stuck)
  | _, _ => M.stuck)
 | .min => (match args with
  | v :: l => M.need (minV v l) K
  | [] => M.stuck)
 | .max => (match args with
  | v :: l => M.need (maxV v l) K
  | [] => M.stuck)
 | .unsafeSliceData => (match args with
  | [.slice none _ _] => K (.pointer none)
  | [.slice (some a) _ c] => M.guard (Nat.ble 1 c) (K (.pointer (some a)))
  | _ => M.stuck)
 | .unsafeString => (match (argTypes[0]?).bind P.underlying, args with
  | some (.pointer u), [.pointer p, .int _ n] => M.unsafeStr u (match P.underlying u with
   | some (.int .u8) => isOne (sizeT P u)
   | _ => false) p n fun s => K (.string s)
  | _, _ => M.stuck)
 | .delete => (match argTypes[0]?, args with
  | some t, [.map m, key] => (match P.underlying t with
   | some (.map kt _) => (match P.underlying kt with
    | some kind => M.guard (keyOk kind key) (M.mapDel kind m key (K (.tuple #[])))
    | none => M.stuck)
   | _ => M.stuck)
  | _, _ => M.stuck)
 | _ => M.stuck
end
end
end Go.Eng
