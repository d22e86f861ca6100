/-
 The engine, part 2: what a function of the program comes to over an abstract heap; each part is proved against the model.
-/
import Derived.Test.YtlcigkdflbfdgaaGreatDoorEng1
namespace Go.Eng
open Go
theorem top_pow (k : IntKind) : ∃ j, topK k + 1 = 2 ^ j ∧ j ≤ k.bits := by cases k <;> first | exact ⟨7, rfl, by decide⟩ | exact ⟨15, rfl, by decide⟩ | exact ⟨31, rfl, by decide⟩ | exact ⟨63, rfl, by decide⟩ | exact ⟨8, rfl, by decide⟩ | exact ⟨16, rfl, by decide⟩ | exact ⟨32, rfl, by decide⟩ | exact ⟨64, rfl, by decide⟩
theorem ofInt_ofNat (w n : Nat) : BitVec.ofInt w (Int.ofNat n) = BitVec.ofNat w n := by
 apply BitVec.eq_of_toNat_eq
 simp
theorem bitW_eq {op : BinOp} {F : Nat → Nat → Nat} (hF : ∀ j x y, x < 2 ^ j → y < 2 ^ j → F x y < 2 ^ j)
  (hb : ∀ (k : IntKind) (m n : Nat), m < 2 ^ k.bits → n < 2 ^ k.bits → bitsV op k (Int.ofNat m) (Int.ofNat n) = k.wrap (Int.ofNat (F m n))) (k : IntKind) (a b : Int) : bitW op F k a b = bitsV op k a b := by
 cases a with
 | negSucc m => rfl
 | ofNat m =>
  cases b with
  | negSucc n => rfl
  | ofNat n =>
   have e : bitW op F k (Int.ofNat m) (Int.ofNat n) = Bool.rec (motive := fun _ => Int) (bitsV op k (Int.ofNat m) (Int.ofNat n)) (Bool.rec (motive := fun _ => Int) (bitsV op k (Int.ofNat m) (Int.ofNat n)) (forceN (F m n) fun x => Int.ofNat x) (Nat.ble n (topK k))) (Nat.ble m (topK k)) := rfl
   rw [e, rec_ble, rec_ble, forceN_eq]
   split
   ·split
    ·rename_i h1 h2
     obtain ⟨j, hj, hjk⟩ := top_pow k
     have hp : 2 ^ j ≤ 2 ^ k.bits := Nat.pow_le_pow_right (by decide) hjk
     rw [hb k m n (by omega) (by omega), wrap_le (by have := hF j m n (by omega) (by omega); omega)]
    ·rfl
   ·rfl
theorem xorW_eq (k : IntKind) (a b : Int) : xorW k a b = bitsV .xor k a b := bitW_eq (fun _ _ _ h1 h2 => Nat.xor_lt_two_pow h1 h2) (fun k m n h1 h2 => by
 show k.wrap ((BitVec.ofInt k.bits (Int.ofNat m) ^^^ BitVec.ofInt k.bits (Int.ofNat n)).toNat : Int) = _
 rw [ofInt_ofNat, ofInt_ofNat, BitVec.toNat_xor, BitVec.toNat_ofNat, BitVec.toNat_ofNat, Nat.mod_eq_of_lt h1, Nat.mod_eq_of_lt h2]; rfl) k a b
theorem andW_eq (k : IntKind) (a b : Int) : andW k a b = bitsV .and k a b := bitW_eq (fun _ _ _ h1 h2 => Nat.and_lt_two_pow _ h2) (fun k m n h1 h2 => by
 show k.wrap ((BitVec.ofInt k.bits (Int.ofNat m) &&& BitVec.ofInt k.bits (Int.ofNat n)).toNat : Int) = _
 rw [ofInt_ofNat, ofInt_ofNat, BitVec.toNat_and, BitVec.toNat_ofNat, BitVec.toNat_ofNat, Nat.mod_eq_of_lt h1, Nat.mod_eq_of_lt h2]; rfl) k a b
theorem orW_eq (k : IntKind) (a b : Int) : orW k a b = bitsV .or k a b := bitW_eq (fun _ _ _ h1 h2 => Nat.or_lt_two_pow h1 h2) (fun k m n h1 h2 => by
 show k.wrap ((BitVec.ofInt k.bits (Int.ofNat m) ||| BitVec.ofInt k.bits (Int.ofNat n)).toNat : Int) = _
 rw [ofInt_ofNat, ofInt_ofNat, BitVec.toNat_or, BitVec.toNat_ofNat, BitVec.toNat_ofNat, Nat.mod_eq_of_lt h1, Nat.mod_eq_of_lt h2]; rfl) k a b
noncomputable section
variable {ρ : Type} (P : Program)
def aEql0 (t : TypeId) (cx cy : Bool) (vx vy : Value) (K : Bool → M ρ) : M ρ :=
 match vx, vy with
 | .int k a, .int k' b => M.guard (decide (k = k')) (K (a == b))
 | .string a, .string b => K (seq a b)
 | .bool a, .bool b => (match P.underlying t with
  | some .bool => K (a == b)
  | _ => M.stuck)
 | .pointer a, .pointer b => (match P.underlying t with
  | some (.pointer e) => (match sizeT P e with
   | some (_ + 1) => M.eqPtr a b K
   | _ => M.stuck)
  | _ => M.stuck)
 | .slice a _ _, .slice b _ _ => (match P.underlying t with
  | some (.slice _) => (match b with
   | none => K a.isNone
   | some _ => (match a with
    | none => K false
    | some _ => M.stuck))
  | _ => M.stuck)
 | .map a, .map b => (match P.underlying t with
  | some (.map _ _) => (match b with
   | none => K a.isNone
   | some _ => (match a with
    | none => K false
    | some _ => M.stuck))
  | _ => M.stuck)
 | .nilIface, .nilIface => (match P.underlying t with
  | some (.interface _) => M.guard (cx || cy) (K true)
  | _ => M.stuck)
 | .nilIface, .iface _ _ => (match P.underlying t with
  | some (.interface _) => K false
  | _ => M.stuck)
 | .iface _ _, .nilIface => (match P.underlying t with
  | some (.interface _) => K false
  | _ => M.stuck)
 | .nilFunc, .nilFunc => (match P.underlying t with
  | some (.func _ _ _) => K true
  | _ => M.stuck)
 | .nilFunc, .func _ _ _ => (match P.underlying t with
  | some (.func _ _ _) => K false
  | _ => M.stuck)
 | .func _ _ _, .nilFunc => (match P.underlying t with
  | some (.func _ _ _) => K false
  | _ => M.stuck)
 | .agg xs, .agg ys => M.guard (plainEq P 8 t && fitT P 8 t xs.toList && fitT P 8 t ys.toList && (match sizeT P t with
   | some s => Nat.beq s xs.toList.length && Nat.beq s ys.toList.length && isAggT P t
   | none => false)) (K (eqCells xs.toList ys.toList))
 | _, _ => M.stuck
def aArith0 (op : BinOp) (vx vy : Value) (K : Value → M ρ) : M ρ :=
 match vx, vy with
 | .int k a, .int k' b =>
  match op with
  | .shl => M.guard (decide (0 ≤ b)) (K (.int k (k.wrap (a * 2 ^ (min b.toNat k.bits)))))
  | .shr => M.guard (decide (0 ≤ b)) (K (.int k (a.fdiv (2 ^ (min b.toNat k.bits)))))
  | .add => M.guard (decide (k = k')) (K (.int k (k.wrap (a + b))))
  | .sub => M.guard (decide (k = k')) (K (.int k (k.wrap (a - b))))
  | .mul => M.guard (decide (k = k')) (K (.int k (k.wrap (a * b))))
  | .quo => M.guard (decide (k = k') && !(decide (b = 0))) (K (.int k (k.wrap (a.tdiv b))))
  | .rem => M.guard (decide (k = k') && !(decide (b = 0))) (K (.int k (a.tmod b)))
  | .and => M.guard (decide (k = k')) (K (.int k (bitsV .and k a b)))
  | .or => M.guard (decide (k = k')) (K (.int k (bitsV .or k a b)))
  | .xor => M.guard (decide (k = k')) (K (.int k (bitsV .xor k a b)))
  | .andNot => M.guard (decide (k = k')) (K (.int k (bitsV .andNot k a b)))
  | .lss => M.guard (decide (k = k')) (K (.bool (decide (a < b))))
  | .leq => M.guard (decide (k = k')) (K (.bool (decide (a ≤ b))))
  | .gtr => M.guard (decide (k = k')) (K (.bool (decide (a > b))))
  | .geq => M.guard (decide (k = k')) (K (.bool (decide (a ≥ b))))
  | _ => M.stuck
 | .string a, .string b =>
  match op with
  | .add => M.guard (Nat.ble (a.size + b.size) 9223372036854775807) (K (.string (a ++ b)))
  | .lss => K (.bool (Op.bytesLess a.data.toList b.data.toList))
  | .leq => K (.bool (Op.bytesLess a.data.toList b.data.toList || seq a b))
  | .gtr => K (.bool !(Op.bytesLess a.data.toList b.data.toList || seq a b))
  | .geq => K (.bool !(Op.bytesLess a.data.toList b.data.toList))
  | _ => M.stuck
 | _, _ => M.stuck
def aConvert0 (src dst : TypeId) (v : Value) (K : Value → M ρ) : M ρ :=
 match P.underlying src, P.underlying dst with
 | some _, some (.int k) => (match v with
  | .int _ n => K (.int k (k.wrap n))
  | _ => M.stuck)
 | some (.slice e), some .string => (match P.underlying e with
  | some (.int .u8) => (match v with
   | .slice a n _ => M.toStr a n fun s => K (.string s)
   | _ => M.stuck)
  | _ => M.stuck)
 | some _, some .string => (match v with
  | .int _ n => K (.string (Utf8.encode n))
  | .string s => K (.string s)
  | _ => M.stuck)
 | some .string, some (.slice e) => (match P.underlying e with
  | some (.int .u8) => (match v with
   | .string s => cond (isOne (sizeT P e)) (M.ofStr e s fun a n c => K (.slice a n c)) M.stuck
   | _ => M.stuck)
  | _ => M.stuck)
 | some (.slice _), some (.slice e) => (match P.underlying e, v with
  | some (.int .u8), .slice (some a) n c => cond (Nat.beq src dst && Nat.ble 1 c) (M.mark a (K (.slice (some a) n c))) M.stuck
  | _, _ => M.stuck)
 | some (.pointer t), some .unsafePointer => (match v with
  | .pointer none => K (.pointer none)
  | .pointer (some a) => fun A => (match A.get a.block with
   | some (.cells cs _ _ _ _) => cond (a.spot.isNone && Nat.ble (a.off + 1) cs.n && pos (sizeT P t)) (K (.pointer (some a)) A) .stuck
   | _ => .stuck)
  | _ => M.stuck)
 | some .unsafePointer, some (.pointer u) => (match v with
  | .pointer none => K (.pointer none)
  | .pointer (some a) => fun A => (match A.get a.block with
   | some (.cells cs e g _ _) => cond (!g && pos (sizeT P u) && liesAt P P.depth e (cs.n / P.cellsOf e) a.off u 1) (K (.pointer (some a)) A) .stuck
   | _ => .stuck)
  | _ => M.stuck)
 | _, _ => M.stuck
def bounds30 (len cap : Nat) (lo hi mx : Option Value) (K : Nat → Nat → Nat → M ρ) : M ρ :=
 let low (h m : Nat) : M ρ := match lo with
  | none => K 0 h m
  | some (.int _ l) => M.guard (decide (0 ≤ l) && decide (l ≤ (h : Int))) (K l.toNat h m)
  | _ => M.stuck
 let high (m : Nat) (top : Nat) : M ρ := match hi with
  | none => cond mx.isNone (low len m) M.stuck
  | some (.int _ h) => M.guard (decide (0 ≤ h) && decide (h ≤ (top : Int))) (low h.toNat m)
  | _ => M.stuck
 match mx with
 | none => high cap cap
 | some (.int _ m) => M.guard (decide (0 ≤ m) && decide (m ≤ (cap : Int))) (high m.toNat m.toNat)
 | _ => M.stuck
def aIndexAddr0 (t : TypeId) (v ix : Value) (K : Value → M ρ) : M ρ :=
 match P.underlying t, v, ix with
 | some (.array n e), .pointer p, .int _ i => (match sizeT P e with
  | some sz => M.deref p fun a => M.guard (decide (0 ≤ i) && decide (i < (n : Int))) (K (.pointer (some (a.add (i.toNat * sz)))))
  | none => M.stuck)
 | some (.slice e), .slice p n _, .int _ i => (match sizeT P e with
  | some sz => M.guard (decide (0 ≤ i) && decide (i < (n : Int))) (M.deref p fun a => K (.pointer (some (a.add (i.toNat * sz)))))
  | none => M.stuck)
 | _, _, _ => M.stuck
def aIndex0 (t : TypeId) (v ix : Value) (K : Value → M ρ) : M ρ :=
 match P.underlying t, v, ix with
 | some (.array n e), .agg cs, .int _ i => (match sizeT P e with
  | some sz => M.guard (decide (0 ≤ i) && decide (i < (n : Int))) (aPart P e cs.toList (i.toNat * sz) K)
  | none => M.stuck)
 | some .string, .string s, .int _ i => M.guard (decide (0 ≤ i) && decide (i < (s.size : Int))) (K (.int .u8 (byteAt s i)))
 | _, _, _ => M.stuck
theorem aEql_eq (t : TypeId) (cx cy : Bool) (vx vy : Value) (K : Bool → M ρ) : aEql P t cx cy vx vy K = aEql0 P t cx cy vx vy K := by
 unfold aEql aEql0
 simp only [eqB_eq]
 rfl
theorem aArith_eq (op : BinOp) (vx vy : Value) (K : Value → M ρ) : aArith op vx vy K = aArith0 op vx vy K := by
 unfold aArith aArith0
 simp only [addW_eq, subW_eq, mulW_eq, xorW_eq, andW_eq, orW_eq, ltB_eq, leB_eq]
 rfl
theorem aConvert_eq (s d : TypeId) (v : Value) (K : Value → M ρ) : aConvert P s d v K = aConvert0 P s d v K := by
 unfold aConvert aConvert0
 simp only [wrapW_eq]
 rfl
theorem bounds3_eq (len cap : Nat) (lo hi mx : Option Value) (K : Nat → Nat → Nat → M ρ) : bounds3 len cap lo hi mx K = bounds30 len cap lo hi mx K := by
 unfold bounds3 bounds30
 simp only [upB_eq]
 rfl
theorem aIndexAddr_eq (t : TypeId) (v ix : Value) (K : Value → M ρ) : aIndexAddr P t v ix K = aIndexAddr0 P t v ix K := by
 unfold aIndexAddr aIndexAddr0
 simp only [inB_eq]
 rfl
theorem aIndex_eq (t : TypeId) (v ix : Value) (K : Value → M ρ) : aIndex P t v ix K = aIndex0 P t v ix K := by
 unfold aIndex aIndex0
 simp only [inB_eq]
 rfl
end
end Go.Eng
