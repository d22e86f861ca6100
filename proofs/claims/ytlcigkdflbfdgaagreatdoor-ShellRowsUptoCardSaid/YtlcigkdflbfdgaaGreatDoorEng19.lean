/-
 The engine, part 19: what a function of the program comes to over an abstract heap; each part is proved against the model.
-/
import Derived.Test.YtlcigkdflbfdgaaGreatDoorEng18
namespace Go.Eng
open Go
def Unif (m : (ρ : Type) → (Value → M ρ) → M ρ) : Prop := (∀ ρ K, m ρ K = M.stuck) ∨ ∃ v, ∀ ρ K, m ρ K = K v
namespace Unif
theorem none {m : (ρ : Type) → (Value → M ρ) → M ρ} (h : ∀ ρ K, m ρ K = M.stuck) : Unif m := .inl h
theorem val {m : (ρ : Type) → (Value → M ρ) → M ρ} (v : Value) (h : ∀ ρ K, m ρ K = K v) : Unif m := .inr ⟨v, h⟩
theorem guard {m : (ρ : Type) → (Value → M ρ) → M ρ} (b : Bool) (h : Unif m) : Unif (fun ρ K => M.guard b (m ρ K)) := by
 cases b
 ·exact .inl fun _ _ => rfl
 ·exact h
theorem condS {m : (ρ : Type) → (Value → M ρ) → M ρ} (b : Bool) (h : Unif m) : Unif (fun ρ K => cond b (m ρ K) M.stuck) := by
 cases b
 ·exact .inl fun _ _ => rfl
 ·exact h
theorem need {α : Type} {m : α → (ρ : Type) → (Value → M ρ) → M ρ} (o : Option α) (h : ∀ x, Unif (m x)) : Unif (fun ρ K => M.need o (fun x => m x ρ K)) := by
 cases o
 ·exact .inl fun _ _ => rfl
 ·exact h _
theorem deref {m : Addr → (ρ : Type) → (Value → M ρ) → M ρ} (o : Option Addr) (h : ∀ x, Unif (m x)) : Unif (fun ρ K => M.deref o (fun x => m x ρ K)) := by
 cases o
 ·exact .inl fun _ _ => rfl
 ·exact h _
end Unif
section
variable {P : Program}
theorem aUn_unif (op : UnOp) (v : Value) : Unif (fun _ K => aUn op v K) := by
 cases op <;> cases v <;> first | exact .none fun _ _ => rfl | exact .val _ fun _ _ => rfl
theorem bounds3_unif {F : Nat → Nat → Nat → (ρ : Type) → (Value → M ρ) → M ρ} (len cap : Nat) (lo hi mx : Option Value) (h : ∀ l t m, Unif (F l t m)) : Unif (fun ρ K => bounds3 len cap lo hi mx fun l t m => F l t m ρ K) := by
 unfold bounds3
 rcases mx with _ | mx
 ·rcases hi with _ | hi
  ·rcases lo with _ | lo
   ·exact Unif.condS true (h _ _ _)
   ·cases lo <;> first | exact .none fun _ _ => rfl | exact Unif.condS true (Unif.guard _ (h _ _ _))
  ·cases hi <;> try (exact .none fun _ _ => rfl)
   rcases lo with _ | lo
   ·exact Unif.guard _ (h _ _ _)
   ·cases lo <;> first | exact Unif.guard _ (Unif.guard _ (h _ _ _)) | exact Unif.guard _ (.none fun _ _ => rfl)
 ·cases mx <;> try (exact .none fun _ _ => rfl)
  rcases hi with _ | hi
  ·exact Unif.guard _ (.none fun _ _ => rfl)
  ·cases hi <;> try (exact Unif.guard _ (.none fun _ _ => rfl))
   rcases lo with _ | lo
   ·exact Unif.guard _ (Unif.guard _ (h _ _ _))
   ·cases lo <;> first | exact Unif.guard _ (Unif.guard _ (Unif.guard _ (h _ _ _))) | exact Unif.guard _ (Unif.guard _ (.none fun _ _ => rfl))
theorem aSlice_unif (t : TypeId) (v : Value) (lo hi mx : Option Value) : Unif (fun _ K => aSlice P t v lo hi mx K) := by
 unfold aSlice
 generalize P.underlying t = d
 cases d with
 | none => exact .none fun _ _ => rfl
 | some d =>
  cases d <;> try (exact .none fun _ _ => rfl)
  case string =>
   cases v <;> try (exact .none fun _ _ => rfl)
   exact Unif.condS _ (bounds3_unif (F := fun l h _ _ K => K (.string _)) _ _ _ _ _ fun _ _ _ => .val _ fun _ _ => rfl)
  case slice e =>
   cases v <;> try (exact .none fun _ _ => rfl)
   simp only
   generalize sizeT P e = s
   cases s
   ·exact .none fun _ _ => rfl
   ·exact bounds3_unif (F := fun l h m _ K => K (.slice _ _ _)) _ _ _ _ _ fun _ _ _ => .val _ fun _ _ => rfl
  case array k e =>
   cases v <;> try (exact .none fun _ _ => rfl)
   simp only
   generalize sizeT P e = s
   cases s
   ·exact .none fun _ _ => rfl
   ·exact Unif.deref _ fun a => bounds3_unif (F := fun l h m _ K => K (.slice _ _ _)) _ _ _ _ _ fun _ _ _ => .val _ fun _ _ => rfl
theorem aFieldAddr_unif (s : TypeId) (v : Value) (i : Nat) : Unif (fun _ K => aFieldAddr P s v i K) := by
 unfold aFieldAddr
 generalize fieldsT P s = fs
 cases fs with
 | none => exact .none fun _ _ => rfl
 | some fs =>
  simp only
  generalize fs[i]? = f
  cases f with
  | none => exact .none fun _ _ => rfl
  | some f =>
   simp only
   generalize sizeT P f.type = n
   cases n with
   | none => exact .none fun _ _ => rfl
   | some n =>
    cases n with
    | zero => exact .none fun _ _ => rfl
    | succ n =>
     cases v <;> try (exact .none fun _ _ => rfl)
     exact Unif.deref _ fun a => .val _ fun _ _ => rfl
theorem aPart_unif (t : TypeId) (cs : List Value) (off : Nat) : Unif (fun _ K => aPart P t cs off K) := by
 unfold aPart
 generalize sizeT P t = n
 cases n with
 | none => exact .none fun _ _ => rfl
 | some n =>
  simp only
  generalize isAggT P t = b
  cases b with
  | true => exact Unif.condS _ (.val _ fun _ _ => rfl)
  | false => exact Unif.need _ fun _ => .val _ fun _ _ => rfl
theorem aField_unif (t : TypeId) (v : Value) (i : Nat) : Unif (fun _ K => aField P t v i K) := by
 unfold aField
 generalize fieldsT P t = fs
 cases fs with
 | none => exact .none fun _ _ => rfl
 | some fs =>
  cases v <;> try (exact .none fun _ _ => rfl)
  simp only
  generalize fs[i]? = f
  cases f with
  | none => exact .none fun _ _ => rfl
  | some f => exact aPart_unif _ _ _
theorem aIndexAddr_unif (t : TypeId) (v ix : Value) : Unif (fun _ K => aIndexAddr P t v ix K) := by
 unfold aIndexAddr
 generalize P.underlying t = d
 cases d with
 | none => exact .none fun _ _ => rfl
 | some d =>
  cases d <;> try (exact .none fun _ _ => rfl)
  case slice e =>
   cases v <;> try (exact .none fun _ _ => rfl)
   cases ix <;> try (exact .none fun _ _ => rfl)
   simp only
   generalize sizeT P e = s
   cases s
   ·exact .none fun _ _ => rfl
   ·exact Unif.guard _ (Unif.deref _ fun a => .val _ fun _ _ => rfl)
  case array k e =>
   cases v <;> try (exact .none fun _ _ => rfl)
   cases ix <;> try (exact .none fun _ _ => rfl)
   simp only
   generalize sizeT P e = s
   cases s
   ·exact .none fun _ _ => rfl
   ·exact Unif.deref _ fun a => Unif.guard _ (.val _ fun _ _ => rfl)
theorem aIndex_unif (t : TypeId) (v ix : Value) : Unif (fun _ K => aIndex P t v ix K) := by
 unfold aIndex
 generalize P.underlying t = d
 cases d with
 | none => exact .none fun _ _ => rfl
 | some d =>
  cases d <;> try (exact .none fun _ _ => rfl)
  case string =>
   cases v <;> try (exact .none fun _ _ => rfl)
   cases ix <;> try (exact .none fun _ _ => rfl)
   exact Unif.guard _ (.val _ fun _ _ => rfl)
  case array k e =>
   cases v <;> try (exact .none fun _ _ => rfl)
   cases ix <;> try (exact .none fun _ _ => rfl)
   simp only
   generalize sizeT P e = s
   cases s
   ·exact .none fun _ _ => rfl
   ·exact Unif.guard _ (aPart_unif _ _ _)
theorem aExtract_unif (v : Value) (i : Nat) : Unif (fun _ K => aExtract v i K) := by
 unfold aExtract
 generalize tupOf v = vs
 cases vs with
 | none => exact .none fun _ _ => rfl
 | some vs =>
  simp only
  generalize vs[i]? = x
  cases x with
  | none => exact .none fun _ _ => rfl
  | some x => exact .val _ fun _ _ => rfl
theorem aBuild_unif (t : TypeId) (ps : List (Nat × Value)) : Unif (fun _ K => aBuild P t ps K) := by
 unfold aBuild
 generalize zeroT P t = z
 cases z with
 | none => exact .none fun _ _ => rfl
 | some z =>
  simp only
  generalize P.underlying t = d
  cases d with
  | none => exact .none fun _ _ => rfl
  | some d =>
   cases d <;> try (exact .none fun _ _ => rfl)
   case struct fs =>
    simp only
    generalize placesT P fs.toList = ps'
    cases ps'
    ·exact .none fun _ _ => rfl
    ·exact Unif.need _ fun _ => .val _ fun _ _ => rfl
   case array k e =>
    simp only
    generalize sizeT P e = s
    cases s
    ·exact .none fun _ _ => rfl
    ·exact Unif.need _ fun _ => .val _ fun _ _ => rfl
theorem aTypeAssert_unif (v : Value) (t : TypeId) (ok : Bool) : Unif (fun _ K => aTypeAssert P v t ok K) := by
 unfold aTypeAssert
 generalize P.underlying t = d
 cases d with
 | none => exact .none fun _ _ => rfl
 | some d =>
  have main : Unif (fun ρ (K : Value → M ρ) => (match zeroT P t with
   | some z => (match v with
    | .nilIface => cond (ok && plain z) (K (.tuple #[z, .bool false])) M.stuck
    | .iface t' x => M.ite (Nat.beq t' t) (M.need ((shT P t).prj x) fun y => K (cond ok (.tuple #[(shT P t).inj y, .bool true]) ((shT P t).inj y)))
      (cond (ok && plain z) (K (.tuple #[z, .bool false])) M.stuck)
    | _ => M.stuck)
   | none => M.stuck)) := by
   generalize zeroT P t = z
   cases z with
   | none => exact .none fun _ _ => rfl
   | some z =>
    cases v <;> try (exact .none fun _ _ => rfl)
    ·rename_i t' x
     simp only [M.ite]
     cases Nat.beq t' t
     ·exact Unif.condS _ (.val _ fun _ _ => rfl)
     ·exact Unif.need _ fun _ => .val _ fun _ _ => rfl
    ·exact Unif.condS _ (.val _ fun _ _ => rfl)
  cases d <;> first | exact .none fun _ _ => rfl | exact main
theorem aArith_unif (op : BinOp) (x y : Value) : Unif (fun _ K => aArith op x y K) := by
 unfold aArith
 cases x <;> try (exact .none fun _ _ => rfl)
 ·cases y <;> try (exact .none fun _ _ => rfl)
  cases op <;> first | exact Unif.guard _ (.val _ fun _ _ => rfl) | exact .none fun _ _ => rfl
 ·cases y <;> try (exact .none fun _ _ => rfl)
  cases op <;> first | exact Unif.guard _ (.val _ fun _ _ => rfl) | exact .val _ fun _ _ => rfl | exact .none fun _ _ => rfl
theorem aLen_unif (t : TypeId) (v : Value) (h : ∀ k e, P.underlying t ≠ some (.map k e)) : Unif (fun _ K => aLen P t v K) := by
 unfold aLen
 generalize P.underlying t = d at h
 cases d with
 | none => exact .none fun _ _ => rfl
 | some d =>
  cases d <;> try (exact .none fun _ _ => rfl)
  case string => cases v <;> first | exact Unif.val _ (fun _ _ => rfl) | exact Unif.none (fun _ _ => rfl)
  case array => exact Unif.val _ (fun _ _ => rfl)
  case slice => cases v <;> first | exact Unif.val _ (fun _ _ => rfl) | exact Unif.none (fun _ _ => rfl)
  case map k e => exact absurd rfl (h k e)
  case pointer a =>
   simp only
   generalize P.underlying a = d2
   cases d2 with
   | none => exact .none fun _ _ => rfl
   | some d2 => cases d2 <;> first | exact Unif.val _ (fun _ _ => rfl) | exact Unif.none (fun _ _ => rfl)
end
end Go.Eng
