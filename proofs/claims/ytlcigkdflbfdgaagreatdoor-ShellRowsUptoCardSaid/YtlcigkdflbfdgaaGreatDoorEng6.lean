/-
 The engine, part 6: what a function of the program comes to over an abstract heap; each part is proved against the model.
-/
import Derived.Test.YtlcigkdflbfdgaaGreatDoorEng5
import Derived.Laws.Strings
namespace Go.Eng
open Go
theorem guard_ok {ρ : Type} {b : Bool} {x : M ρ} {A : AW} {r : Res ρ} (h : M.guard b x A = r) (hr : r ≠ .stuck) : b = true ∧ x A = r := by
 cases b
 ·exact absurd h.symm hr
 ·exact ⟨rfl, h⟩
theorem condM_ok {ρ : Type} {b : Bool} {x : M ρ} {A : AW} {r : Res ρ} (h : (cond b x M.stuck) A = r) (hr : r ≠ .stuck) : b = true ∧ x A = r := by
 cases b
 ·exact absurd h.symm hr
 ·exact ⟨rfl, h⟩
theorem need_ok {ρ α : Type} {o : Option α} {k : α → M ρ} {A : AW} {r : Res ρ} (h : M.need o k A = r) (hr : r ≠ .stuck) : ∃ x, o = some x ∧ k x A = r := by
 cases o
 ·exact absurd h.symm hr
 ·exact ⟨_, rfl, h⟩
theorem deref_ok {ρ : Type} {o : Option Addr} {k : Addr → M ρ} {A : AW} {r : Res ρ} (h : M.deref o k A = r) (hr : r ≠ .stuck) : ∃ a, o = some a ∧ k a A = r := by
 cases o
 ·exact absurd h.symm hr
 ·exact ⟨_, rfl, h⟩
theorem stuck_ok {ρ : Type} {A : AW} {r : Res ρ} {p : Prop} (h : (M.stuck : M ρ) A = r) (hr : r ≠ .stuck) : p := absurd h.symm hr
def Pure {ρ : Type} (P : Program) (φ : Phi) (A : AW) (r : Res ρ) (K : Value → M ρ) (s : Sem Value) : Prop :=
 ∃ v v', r = K v A ∧ (∀ w, s.run P w = .ok v' w) ∧ VR φ v v'
variable {P : Program} {φ : Phi} {A : AW} {ρ : Type} {r : Res ρ}
theorem bytes_toList (a : ByteArray) : a.toList = a.data.toList := ByteArray.toList_eq a
theorem bytes_ext {a b : ByteArray} (h : a.data.toList = b.data.toList) : a = b := by
 obtain ⟨⟨x⟩⟩ := a
 obtain ⟨⟨y⟩⟩ := b
 have : x = y := h
 rw [this]
theorem seq_iff {a b : ByteArray} : seq a b = true ↔ a = b := ⟨fun h => bytes_ext (eq_of_beq h), fun h => by rw [h]; exact beq_self_eq_true _⟩
theorem bytes_eq (a b : ByteArray) : (a.toList == b.toList) = seq a b := by
 rw [bytes_toList, bytes_toList]; rfl
theorem aArith_sound {op : BinOp} {t : TypeId} {vx vy ux uy : Value} {K : Value → M ρ} (h : aArith op vx vy K A = r) (hr : r ≠ .stuck) (hx : VR φ vx ux) (hy : VR φ vy uy) (h1 : op ≠ .eql) (h2 : op ≠ .neq) :
  Pure P φ A r K (binOp op t ux uy) := by
 rw [aArith_eq] at h
 unfold aArith0 at h
 split at h
 ·rename_i k a k' b
  cases hx; cases hy
  cases op <;> simp only at h
  case add => obtain ⟨hk, h9⟩ := guard_ok h hr; clear h; obtain rfl := of_decide_eq_true hk; exact ⟨_, _, h9.symm, fun w => by simp [binOp, Op.intArith], .int _ _⟩
  case sub => obtain ⟨hk, h9⟩ := guard_ok h hr; clear h; obtain rfl := of_decide_eq_true hk; exact ⟨_, _, h9.symm, fun w => by simp [binOp, Op.intArith], .int _ _⟩
  case mul => obtain ⟨hk, h9⟩ := guard_ok h hr; clear h; obtain rfl := of_decide_eq_true hk; exact ⟨_, _, h9.symm, fun w => by simp [binOp, Op.intArith], .int _ _⟩
  case quo =>
   obtain ⟨hk, h9⟩ := guard_ok h hr; clear h
   simp only [Bool.and_eq_true, Bool.not_eq_true', decide_eq_true_eq, decide_eq_false_iff_not] at hk
   obtain ⟨rfl, hb⟩ := hk
   exact ⟨_, _, h9.symm, fun w => by simp [binOp, Op.intDiv, hb], .int _ _⟩
  case rem =>
   obtain ⟨hk, h9⟩ := guard_ok h hr; clear h
   simp only [Bool.and_eq_true, Bool.not_eq_true', decide_eq_true_eq, decide_eq_false_iff_not] at hk
   obtain ⟨rfl, hb⟩ := hk
   exact ⟨_, _, h9.symm, fun w => by simp [binOp, Op.intDiv, hb], .int _ _⟩
  case and => obtain ⟨hk, h9⟩ := guard_ok h hr; clear h; obtain rfl := of_decide_eq_true hk; exact ⟨_, _, h9.symm, fun w => by simp [binOp, Op.intBits, bitsV], .int _ _⟩
  case or => obtain ⟨hk, h9⟩ := guard_ok h hr; clear h; obtain rfl := of_decide_eq_true hk; exact ⟨_, _, h9.symm, fun w => by simp [binOp, Op.intBits, bitsV], .int _ _⟩
  case xor => obtain ⟨hk, h9⟩ := guard_ok h hr; clear h; obtain rfl := of_decide_eq_true hk; exact ⟨_, _, h9.symm, fun w => by simp [binOp, Op.intBits, bitsV], .int _ _⟩
  case andNot => obtain ⟨hk, h9⟩ := guard_ok h hr; clear h; obtain rfl := of_decide_eq_true hk; exact ⟨_, _, h9.symm, fun w => by simp [binOp, Op.intBits, bitsV], .int _ _⟩
  case shl => obtain ⟨hk, h9⟩ := guard_ok h hr; clear h; have := of_decide_eq_true hk; exact ⟨_, _, h9.symm, fun w => by simp [binOp, Op.shift, show ¬ b < 0 by omega], .int _ _⟩
  case shr => obtain ⟨hk, h9⟩ := guard_ok h hr; clear h; have := of_decide_eq_true hk; exact ⟨_, _, h9.symm, fun w => by simp [binOp, Op.shift, show ¬ b < 0 by omega], .int _ _⟩
  case eql => exact absurd rfl h1
  case neq => exact absurd rfl h2
  case lss => obtain ⟨hk, h9⟩ := guard_ok h hr; clear h; obtain rfl := of_decide_eq_true hk; exact ⟨_, _, h9.symm, fun w => by simp [binOp, Op.intCmp], .bool _⟩
  case leq => obtain ⟨hk, h9⟩ := guard_ok h hr; clear h; obtain rfl := of_decide_eq_true hk; exact ⟨_, _, h9.symm, fun w => by simp [binOp, Op.intCmp], .bool _⟩
  case gtr => obtain ⟨hk, h9⟩ := guard_ok h hr; clear h; obtain rfl := of_decide_eq_true hk; exact ⟨_, _, h9.symm, fun w => by simp [binOp, Op.intCmp], .bool _⟩
  case geq => obtain ⟨hk, h9⟩ := guard_ok h hr; clear h; obtain rfl := of_decide_eq_true hk; exact ⟨_, _, h9.symm, fun w => by simp [binOp, Op.intCmp], .bool _⟩
 ·rename_i a b
  cases hx; cases hy
  cases op <;> simp only at h <;> first | (exact stuck_ok (A := A) h hr) | skip
  case add =>
   obtain ⟨hk, h9⟩ := guard_ok h hr; clear h
   have := ble_iff.1 hk
   refine ⟨_, _, h9.symm, fun w => ?_, .string _⟩
   have hm : ¬ (((a.size + b.size : Nat) : Int) > IntKind.i64.max) := by
    have : IntKind.i64.max = 9223372036854775807 := by decide
    omega
   simp only [binOp, Op.stringOp, if_neg hm]
   rfl
  case lss => exact ⟨_, _, h.symm, fun w => by simp [binOp, Op.stringOp, bytes_toList], .bool _⟩
  case leq => exact ⟨_, _, h.symm, fun w => by simp only [binOp, Op.stringOp, bytes_toList a, bytes_toList b]; rfl, .bool _⟩
  case gtr => exact ⟨_, _, h.symm, fun w => by simp only [binOp, Op.stringOp, bytes_toList a, bytes_toList b]; rfl, .bool _⟩
  case geq => exact ⟨_, _, h.symm, fun w => by simp only [binOp, Op.stringOp, bytes_toList a, bytes_toList b]; rfl, .bool _⟩
 ·exact stuck_ok (A := A) h hr
theorem aUn_sound {op : UnOp} {v u : Value} {K : Value → M ρ} (h : aUn op v K A = r) (hr : r ≠ .stuck) (hv : VR φ v u) : Pure P φ A r K (Op.unary op u) := by
 unfold aUn at h
 split at h
 ·cases hv; exact ⟨_, _, h.symm, fun w => by simp [Op.unary, Op.intArith], .int _ _⟩
 ·cases hv; exact ⟨_, _, h.symm, fun w => by simp [Op.unary, Op.intBits, bitsV], .int _ _⟩
 ·cases hv; exact ⟨_, _, h.symm, fun w => by simp [Op.unary], .bool _⟩
 ·exact stuck_ok (A := A) h hr
end Go.Eng
namespace Go.Eng
open Go
section
variable {P : Program} {w : World}
theorem run_und {t : TypeId} {d : TypeDesc} (h : P.underlying t = some d) : (underlying t).run P w = .ok d w := by
 simp [underlying, program, Sem.run, h]
theorem sizeT_some {t : TypeId} {n : Nat} (h : sizeT P t = some n) : (∃ d, P.underlying t = some d) ∧ ∃ i, P.info? t = some i ∧ i.size = n := by
 unfold sizeT at h
 split at h
 ·rename_i d hd
  obtain ⟨i, hi, rfl⟩ := Option.map_eq_some_iff.1 h
  exact ⟨⟨d, hd⟩, i, hi, rfl⟩
 ·cases h
theorem run_info {t : TypeId} {i : TypeInfo} (h : P.info? t = some i) : (typeInfo t).run P w = .ok i w := by
 simp [typeInfo, program, Sem.run, h]
theorem run_size {t : TypeId} {n : Nat} (h : sizeT P t = some n) : (sizeOf t).run P w = .ok n w := by
 obtain ⟨_, i, hi, rfl⟩ := sizeT_some h
 simp [sizeOf, run_info hi]
theorem bytesT_some {t : TypeId} {n : Nat} (h : bytesT P t = some n) : ∃ i, P.info? t = some i ∧ i.bytes = n := by
 obtain ⟨i, hi, rfl⟩ := Option.map_eq_some_iff.1 h
 exact ⟨i, hi, rfl⟩
theorem run_zero {t : TypeId} {z : Value} (h : zeroT P t = some z) : (zeroValue t).run P w = .ok z w := by
 obtain ⟨i, hi, hz⟩ := Option.bind_eq_some_iff.1 h
 simp [zeroValue, run_info hi, hz]
theorem run_isAgg {t : TypeId} {n : Nat} (h : sizeT P t = some n) : (isAgg t).run P w = .ok (isAggT P t) w := by
 obtain ⟨⟨d, hd⟩, _⟩ := sizeT_some h
 simp only [isAgg, Sem.run_bind, run_und hd, Result.andThen_ok, isAggT, hd]
 cases d <;> rfl
end
variable {P : Program} {φ : Phi} {A : AW} {ρ : Type} {r : Res ρ}
theorem plain1_VR (φ : Phi) {v : Value} (h : plain1 v = true) : VR φ v v := by
 cases v with
 | bool b => exact .bool b
 | int k n => exact .int k n
 | float k n => exact .float k n
 | complex k n m => exact .complex k n m
 | string s => exact .string s
 | pointer a => cases a <;> first | exact .nilPtr | (simp [plain1] at h)
 | slice a n c =>
  cases a with
  | none =>
   cases n with
   | zero => exact .nilSlice (Nat.zero_le _)
   | succ n => simp [plain1] at h
  | some a => simp [plain1] at h
 | map r => cases r <;> first | exact .nilMap | (simp [plain1] at h)
 | chan r => cases r <;> first | exact .nilChan | (simp [plain1] at h)
 | func f a b =>
  cases f <;> simp [plain1] at h
  obtain ⟨rfl, rfl⟩ := h
  exact .func rfl rfl (fun i x y hx => by simp at hx) rfl (fun i x y hx => by simp at hx)
 | nilFunc => exact .nilFunc
 | iface t v => simp [plain1] at h
 | nilIface => exact .nilIface
 | agg cs => simp [plain1] at h
 | tuple cs => simp [plain1] at h
theorem plain2_VR (φ : Phi) {v : Value} (h : plain2 v = true) : VR φ v v := by
 cases v with
 | iface t v => exact .iface t (plain1_VR φ h)
 | bool b => exact plain1_VR φ h
 | int k n => exact plain1_VR φ h
 | float k n => exact plain1_VR φ h
 | complex k n m => exact plain1_VR φ h
 | string s => exact plain1_VR φ h
 | pointer a => exact plain1_VR φ h
 | slice a n c => exact plain1_VR φ h
 | map r => exact plain1_VR φ h
 | chan r => exact plain1_VR φ h
 | func f a b => exact plain1_VR φ h
 | nilFunc => exact .nilFunc
 | nilIface => exact .nilIface
 | agg cs => exact plain1_VR φ h
 | tuple cs => exact plain1_VR φ h
theorem all2_Rs (φ : Phi) {l : List Value} (h : l.all plain2 = true) : Rs φ l l :=
 ⟨rfl, fun i x y hx hy => by
  rw [hx] at hy
  obtain rfl := Option.some.inj hy
  exact plain2_VR φ (List.all_eq_true.1 h x (List.mem_of_getElem? hx))⟩
theorem plain_VR (φ : Phi) {v : Value} (h : plain v = true) : VR φ v v := by
 cases v with
 | agg cs => exact .agg rfl (all2_Rs φ h).2
 | tuple cs => exact .tuple rfl (all2_Rs φ h).2
 | bool b => exact plain2_VR φ h
 | int k n => exact plain2_VR φ h
 | float k n => exact plain2_VR φ h
 | complex k n m => exact plain2_VR φ h
 | string s => exact plain2_VR φ h
 | pointer a => exact plain2_VR φ h
 | slice a n c => exact plain2_VR φ h
 | map r => exact plain2_VR φ h
 | chan r => exact plain2_VR φ h
 | func f a b => exact plain2_VR φ h
 | nilFunc => exact plain2_VR φ h
 | iface t v => exact plain2_VR φ h
 | nilIface => exact plain2_VR φ h
theorem plain_cells (φ : Phi) {v : Value} (h : plain v = true) : Rs φ v.cells.toList v.cells.toList := by
 have := plain_VR φ h
 cases v <;> first | exact Rs.cons this Rs.nil | skip
 case agg cs => exact all2_Rs φ h
theorem VR.cells {φ : Phi} {v u : Value} (h : VR φ v u) : Rs φ v.cells.toList u.cells.toList := by
 cases h <;> first | (refine Rs.cons ?_ Rs.nil; first | constructor | (constructor <;> assumption) | skip) | skip
 case agg ha hac => exact ⟨ha, hac⟩
 all_goals assumption
theorem Rs.toAgg {φ : Phi} {l m : List Value} (h : Rs φ l m) (c : Array Value) (hc : c.toList = m) : VR φ (.agg ⟨l⟩) (.agg c) := by
 subst hc; exact .agg h.1 h.2
theorem aPart_sound {t : TypeId} {cs : List Value} {ds : Array Value} {off : Nat} {K : Value → M ρ} (h : aPart P t cs off K A = r) (hr : r ≠ .stuck) (hc : Rs φ cs ds.toList) :
  Pure P φ A r K (part t ds off) := by
 unfold aPart at h
 cases hn : sizeT P t with
 | none => rw [hn] at h; exact stuck_ok (A := A) h hr
 | some n =>
  rw [hn] at h
  simp only at h
  cases hb : isAggT P t with
  | true =>
   rw [hb] at h
   simp only [cond_true] at h
   obtain ⟨hl, h⟩ := condM_ok h hr
   refine ⟨_, .agg (ds.extract off (off + n)), h.symm, fun w => by simp [part, run_isAgg hn, hb, run_size hn], ?_⟩
   refine Rs.toAgg ((hc.drop off).take n) _ ?_
   simp [Array.toList_extract, List.extract_eq_take_drop]
  | false =>
   rw [hb] at h
   simp only [cond_false] at h
   cases hv : cs[off]? with
   | none => rw [hv] at h; exact stuck_ok (A := A) h hr
   | some v =>
    rw [hv] at h
    obtain ⟨x, hx, h⟩ := need_ok h hr
    rw [Sh.inj_prj hx] at h
    obtain ⟨u, hu, hvu⟩ := hc.get hv
    have hu' : ds[off]? = some u := by simpa using hu
    exact ⟨v, u, h.symm, fun w => by simp [part, run_isAgg hn, hb, hu'], hvu⟩
theorem fieldsT_some {s : TypeId} {fs : List Field} (h : fieldsT P s = some fs) : ∃ a : Array Field, P.underlying s = some (.struct a) ∧ a.toList = fs := by
 unfold fieldsT at h
 split at h
 ·rename_i a ha; exact ⟨a, ha, Option.some.inj h⟩
 ·cases h
theorem aField_sound {t : TypeId} {v u : Value} {i : Nat} {K : Value → M ρ} (h : aField P t v i K A = r) (hr : r ≠ .stuck) (hv : VR φ v u) :
  Pure P φ A r K (Instr.field t u i) := by
 unfold aField at h
 cases hf : fieldsT P t with
 | none => rw [hf] at h; exact stuck_ok (A := A) h hr
 | some fs =>
  obtain ⟨a, ha, rfl⟩ := fieldsT_some hf
  rw [hf] at h
  cases hv with
  | agg hl hac =>
   rename_i cs ds
   simp only at h
   cases hfi : a.toList[i]? with
   | none => rw [hfi] at h; exact stuck_ok (A := A) h hr
   | some f =>
    rw [hfi] at h
    have hfi' : a[i]? = some f := by simpa using hfi
    obtain ⟨x, y, h1, h2, h3⟩ := aPart_sound h hr ⟨hl, hac⟩
    exact ⟨x, y, h1, fun w => by simp [Instr.field, run_und ha, hfi', asAgg, h2 w], h3⟩
  | _ => exact stuck_ok (A := A) h hr
theorem aFieldAddr_sound {s : TypeId} {v u : Value} {i : Nat} {K : Value → M ρ} (h : aFieldAddr P s v i K A = r) (hr : r ≠ .stuck) (hv : VR φ v u) :
  Pure P φ A r K (Instr.fieldAt s u i) := by
 unfold aFieldAddr at h
 cases hf : fieldsT P s with
 | none => rw [hf] at h; exact stuck_ok (A := A) h hr
 | some fs =>
  obtain ⟨a, ha, rfl⟩ := fieldsT_some hf
  rw [hf] at h
  simp only at h
  cases hfi : a.toList[i]? with
  | none => rw [hfi] at h; exact stuck_ok (A := A) h hr
  | some f =>
   rw [hfi] at h
   have hfi' : a[i]? = some f := by simpa using hfi
   simp only at h
   cases hn : sizeT P f.type with
   | none => rw [hn] at h; exact stuck_ok (A := A) h hr
   | some n =>
    rw [hn] at h
    cases n with
    | zero => exact stuck_ok (A := A) h hr
    | succ n =>
     cases hv with
     | ptr hc =>
      refine ⟨_, _, h.symm, fun w => ?_, .ptr (hc.add _)⟩
      simp [Instr.fieldAt, run_und ha, hfi', Instr.sureAddr, fieldPlace, run_size hn]
     | _ => exact stuck_ok (A := A) h hr
end Go.Eng
namespace Go.Eng
open Go
variable {P : Program} {φ : Phi} {A : AW} {ρ : Type} {r : Res ρ}
theorem aIndexAddr_sound {t : TypeId} {v u ix jx : Value} {K : Value → M ρ} (h : aIndexAddr P t v ix K A = r) (hr : r ≠ .stuck) (hv : VR φ v u) (hi : VR φ ix jx) :
  Pure P φ A r K (Instr.indexAt t u jx) := by
 rw [aIndexAddr_eq] at h
 unfold aIndexAddr0 at h
 cases hu : P.underlying t with
 | none => rw [hu] at h; exact stuck_ok (A := A) h hr
 | some d =>
  rw [hu] at h
  cases d with
  | array n e =>
   cases hi with
   | int k i =>
    cases hv with
    | ptr hc =>
     simp only at h
     cases hn : sizeT P e with
     | none => rw [hn] at h; exact stuck_ok (A := A) h hr
     | some sz =>
      rw [hn] at h
      simp only [M.deref] at h
      obtain ⟨hb, h⟩ := guard_ok h hr
      simp only [Bool.and_eq_true, decide_eq_true_eq] at hb
      refine ⟨_, _, h.symm, fun w => ?_, .ptr (hc.add _)⟩
      simp [Instr.indexAt, asIntOf, run_und hu, Instr.sureAddr, hb.1, hb.2, run_size hn]
    | nilPtr => exact stuck_ok (A := A) (by simp only at h; cases hn : sizeT P e <;> (rw [hn] at h; exact h)) hr
    | _ => exact stuck_ok (A := A) h hr
   | _ => exact stuck_ok (A := A) (by cases hv <;> exact h) hr
  | slice e =>
   cases hi with
   | int k i =>
    cases hv with
    | slice n hs =>
     simp only at h
     cases hn : sizeT P e with
     | none => rw [hn] at h; exact stuck_ok (A := A) h hr
     | some sz =>
      rw [hn] at h
      simp only at h
      obtain ⟨hb, h⟩ := guard_ok h hr
      simp only [Bool.and_eq_true, decide_eq_true_eq] at hb
      refine ⟨_, _, h.symm, fun w => ?_, .ptr ((hs.ar (.inl (by omega))).add _)⟩
      simp [Instr.indexAt, asIntOf, run_und hu, hb.1, hb.2, run_size hn]
    | nilSlice hnc =>
     simp only at h
     cases hn : sizeT P e with
     | none => rw [hn] at h; exact stuck_ok (A := A) h hr
     | some sz =>
      rw [hn] at h
      simp only at h
      obtain ⟨hb, h⟩ := guard_ok h hr
      exact stuck_ok (A := A) h hr
    | _ => exact stuck_ok (A := A) h hr
   | _ => exact stuck_ok (A := A) (by cases hv <;> exact h) hr
  | _ => exact stuck_ok (A := A) h hr
end Go.Eng
