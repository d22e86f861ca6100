/-
  The engine, part 28: what a function of the program comes to over an abstract heap; each part is proved against the model.
-/
import Derived.Test.YtlcigkdflbfdgaaDoorEng27
namespace Go.Eng
open Go Go.RowKit
noncomputable def twiceText (_X : Task → M Value) (_L : LoopI) (x : Int × Unit) : M Value :=
  M.guard (decide (0 ≤ 1))
  (let v0_ : Int := IntKind.u8.wrap (x.1 * 2 ^ (min (Int.toNat 1) IntKind.u8.bits))
  M.join (fun (j1_ : Int × Unit) => M.pure (.int .u8 j1_.1)) fun go2_ =>
    M.ite (decide (x.1 ≥ 128)) (go2_ ((bitsV .xor .u8 v0_ 29), ())) (go2_ (v0_, ())))
noncomputable def mulRound (tw : Nat) (X : Task → M Value) (s0_ : Int × Int × Int × Unit) : M ((Int × Int × Int × Unit) ⊕ ((Int × Unit) ⊕ Unit)) :=
  M.ite (decide (s0_.2.1 > 0))
  (M.join (fun (j2_ : Int × Unit) =>
    M.callS (.one (.cell (.int .u8))) (X (.call tw [(.int .u8 s0_.1)])) fun (r4_ : Int) =>
    M.guard (decide (0 ≤ 1))
    (M.pure (.inl (r4_, (((s0_.2.1 : Int)).fdiv (2 ^ (min (Int.toNat 1) IntKind.u8.bits))), j2_.1, ())))) fun go3_ =>
    M.ite ((bitsV .and .u8 s0_.2.1 1) == 1) (go3_ ((bitsV .xor .u8 s0_.2.2.1 s0_.1), ())) (go3_ (s0_.2.2.1, ())))
  (M.pure (.inr (.inl (s0_.2.2.1, ()))))
noncomputable def mulText (tw : Nat) (X : Task → M Value) (L : LoopI) (x : Int × Int × Unit) : M Value :=
  M.bind (L (σ := Int × Int × Int × Unit) (ρ := (Int × Unit) ⊕ Unit) (fun s0_ => mulRound tw X s0_) (x.1, x.2.1, 0, ())) <| M.sum (fun (j9_ : Int × Unit) => M.pure (.int .u8 j9_.1)) (fun _ => M.stuck)
noncomputable def twiceTextF (_X : Task → M Value) (_L : LoopI) (x : Int × Unit) : M Value :=
  M.guard (decide (0 ≤ 1))
  (let v0_ : Int := IntKind.u8.wrap (x.1 * 2 ^ (min (Int.toNat 1) IntKind.u8.bits))
  M.join (fun (j1_ : Int × Unit) => M.pure (.int .u8 j1_.1)) fun go2_ =>
    M.ite (leB 128 x.1) (go2_ ((xorW .u8 v0_ 29), ())) (go2_ (v0_, ())))
noncomputable def mulRoundF (tw : Nat) (X : Task → M Value) (s0_ : Int × Int × Int × Unit) : M ((Int × Int × Int × Unit) ⊕ ((Int × Unit) ⊕ Unit)) :=
  M.ite (ltB 0 s0_.2.1)
  (M.join (fun (j2_ : Int × Unit) =>
    M.callS (.one (.cell (.int .u8))) (X (.call tw [(.int .u8 s0_.1)])) fun (r4_ : Int) =>
    M.guard (decide (0 ≤ 1))
    (M.pure (.inl (r4_, (((s0_.2.1 : Int)).fdiv (2 ^ (min (Int.toNat 1) IntKind.u8.bits))), j2_.1, ())))) fun go3_ =>
    M.ite (eqB (andW .u8 s0_.2.1 1) 1) (go3_ ((xorW .u8 s0_.2.2.1 s0_.1), ())) (go3_ (s0_.2.2.1, ())))
  (M.pure (.inr (.inl (s0_.2.2.1, ()))))
noncomputable def mulTextF (tw : Nat) (X : Task → M Value) (L : LoopI) (x : Int × Int × Unit) : M Value :=
  M.bind (L (σ := Int × Int × Int × Unit) (ρ := (Int × Unit) ⊕ Unit) (fun s0_ => mulRoundF tw X s0_) (x.1, x.2.1, 0, ())) <| M.sum (fun (j9_ : Int × Unit) => M.pure (.int .u8 j9_.1)) (fun _ => M.stuck)
theorem twiceTextF_eq (X : Task → M Value) (L : LoopI) (x : Int × Unit) : twiceTextF X L x = twiceText X L x := by
  unfold twiceTextF twiceText
  simp only [leB_eq, xorW_eq] <;> rfl
theorem mulRoundF_eq (tw : Nat) (X : Task → M Value) (s : Int × Int × Int × Unit) : mulRoundF tw X s = mulRound tw X s := by
  unfold mulRoundF mulRound
  simp only [ltB_eq, xorW_eq, andW_eq, eqB_eq] <;> rfl
theorem mulTextF_eq (tw : Nat) (X : Task → M Value) (L : LoopI) (x : Int × Int × Unit) : mulTextF tw X L x = mulText tw X L x := by
  unfold mulTextF mulText
  simp only [mulRoundF_eq]
def tw (a : Nat) : Nat := Nat.xor (Nat.mul 2 a) (Nat.mul 285 (Nat.div (Nat.mul 2 a) 256))
def gmF : Nat → Nat → Nat → Nat → Nat
  | 0, _, _, p => p
  | i + 1, a, b, p => gmF i (tw a) (Nat.div b 2) (Nat.xor p (Nat.mul a (Nat.mod b 2)))
def gm (a b : Nat) : Nat := gmF 8 a b 0
theorem tw_lt : ∀ a, a < 256 → tw a < 256 := by decide +kernel
theorem xor_lt {a b : Nat} (ha : a < 256) (hb : b < 256) : Nat.xor a b < 256 := Nat.xor_lt_two_pow (n := 8) ha hb
theorem gmF_zero : ∀ i a p, gmF i a 0 p = p
  | 0, _, _ => rfl
  | i + 1, a, p => by
    show gmF i (tw a) (0 / 2) (p ^^^ (a * (0 % 2))) = p
    simp [gmF_zero i]
theorem wrap_u8 {n : Nat} (h : n < 256) : IntKind.u8.wrap (n : Int) = n := by
  have : ∀ n : Fin 256, IntKind.u8.wrap (n.val : Int) = n.val := by decide +kernel
  exact this ⟨n, h⟩
theorem ofInt_u8 (n : Nat) : BitVec.ofInt 8 (n : Int) = BitVec.ofNat 8 n := by
  apply BitVec.eq_of_toNat_eq
  simp
theorem xor_u8 {a b : Nat} (ha : a < 256) (hb : b < 256) : bitsV .xor .u8 (a : Int) (b : Int) = (Nat.xor a b : Nat) := by
  show IntKind.u8.wrap ((BitVec.ofInt 8 (a : Int) ^^^ BitVec.ofInt 8 (b : Int)).toNat : Int) = _
  rw [ofInt_u8, ofInt_u8, show ((BitVec.ofNat 8 a ^^^ BitVec.ofNat 8 b).toNat : Int) = ((Nat.xor a b : Nat) : Int) by
    rw [BitVec.toNat_xor, BitVec.toNat_ofNat, BitVec.toNat_ofNat, Nat.mod_eq_of_lt ha, Nat.mod_eq_of_lt hb]; rfl]
  exact wrap_u8 (xor_lt ha hb)
theorem twice_lo : ∀ a : Fin 256, IntKind.u8.wrap ((a.val : Int) * 2 ^ (min (Int.toNat 1) IntKind.u8.bits)) = if a.val ≥ 128 then ((2 * a.val - 256 : Nat) : Int) else ((2 * a.val : Nat) : Int) := by decide +kernel
theorem twice_hi : ∀ a : Fin 256, (if a.val ≥ 128 then Nat.xor (2 * a.val - 256) 29 else 2 * a.val) = tw a.val := by decide +kernel
section
variable {C : Cfg} {ft fm : Nat} {A : AW} {n : Nat}
theorem twice_run {L : LoopI} {X : Task → M Value} {a : Nat} (ha : a < 256) : twiceText X L ((a : Int), ()) A = .ok (.int .u8 (tw a : Nat)) A := by
  unfold twiceText M.guard M.join M.ite
  simp only
  have h1 := twice_lo ⟨a, ha⟩
  have h2 := twice_hi ⟨a, ha⟩
  simp only at h1 h2
  rw [h1]
  by_cases h : a ≥ 128
  · rw [if_pos h] at h2
    rw [if_pos h]
    have hd : decide ((a : Int) ≥ 128) = true := by rw [decide_eq_true_eq]; omega
    rw [hd, show bitsV .xor .u8 ((2 * a - 256 : Nat) : Int) 29 = ((Nat.xor (2 * a - 256) 29 : Nat) : Int) from xor_u8 (a := 2 * a - 256) (b := 29) (by omega) (by omega), h2]
    rfl
  · rw [if_neg h] at h2
    rw [if_neg h]
    have hd : decide ((a : Int) ≥ 128) = false := by rw [decide_eq_false_iff_not]; omega
    rw [hd, h2]
    rfl
theorem and1_u8 : ∀ b : Fin 256, (bitsV .and .u8 (b.val : Int) 1 == 1) = decide (b.val % 2 = 1) := by decide +kernel
theorem half_u8 : ∀ b : Fin 256, ((b.val : Int)).fdiv (2 ^ (min (Int.toNat 1) IntKind.u8.bits)) = ((b.val / 2 : Nat) : Int) := by decide +kernel
theorem mul_round {X : Task → M Value} (hX : ∀ a, a < 256 → X (.call ft [.int .u8 (a : Nat)]) A = .ok (.int .u8 (tw a : Nat)) A) {a b p : Nat} (ha : a < 256) (hb : b < 256) (hp : p < 256) :
    mulRound ft X ((a : Int), (b : Int), (p : Int), ()) A = if b = 0 then .ok (.inr (.inl ((p : Int), ()))) A else .ok (.inl ((tw a : Nat), ((b / 2 : Nat) : Int), ((Nat.xor p (a * (b % 2)) : Nat) : Int), ())) A := by
  unfold mulRound M.ite M.join
  simp only
  by_cases h0 : b = 0
  · subst h0
    rfl
  · rw [if_neg h0]
    have hd : decide ((b : Int) > 0) = true := by rw [decide_eq_true_eq]; omega
    have h1 := and1_u8 ⟨b, hb⟩
    have h2 := half_u8 ⟨b, hb⟩
    simp only at h1 h2
    have call : ∀ q : Int, M.callS (ρ := (Int × Int × Int × Unit) ⊕ ((Int × Unit) ⊕ Unit)) (.one (.cell (.int .u8))) (X (.call ft [(.int .u8 (a : Int))])) (fun (r4_ : Int) =>
        M.guard (decide (0 ≤ 1)) (M.pure (.inl (r4_, (((b : Int)).fdiv (2 ^ (min (Int.toNat 1) IntKind.u8.bits))), q, ())))) A = .ok (.inl ((tw a : Nat), ((b / 2 : Nat) : Int), q, ())) A := by
      intro q
      unfold M.callS M.bind
      rw [hX a ha, h2]
      rfl
    rw [hd, h1]
    rcases Nat.mod_two_eq_zero_or_one b with h | h
    · rw [h]
      simp only [cond_true, Nat.zero_ne_one, decide_false, cond_false, call]
      simp
    · rw [h]
      simp only [cond_true, decide_true, call, Nat.mul_one]
      rw [xor_u8 hp ha]
theorem mul_loop {X : Task → M Value} (hX : ∀ a, a < 256 → X (.call ft [.int .u8 (a : Nat)]) A = .ok (.int .u8 (tw a : Nat)) A) : ∀ (i k a b p : Nat), b < 2 ^ i → i ≤ 8 → i < k → a < 256 → p < 256 →
    whileN (mulRound ft X) k ((a : Int), (b : Int), (p : Int), ()) A = .ok (.inl ((gmF i a b p : Nat), ())) A
  | i, 0, _, _, _, _, _, hk, _, _ => absurd hk (Nat.not_lt_zero _)
  | i, k + 1, a, b, p, hb, h8, hk, ha, hp => by
    have hb8 : b < 256 := Nat.lt_of_lt_of_le hb (Nat.pow_le_pow_right (by decide) h8 : 2 ^ i ≤ 2 ^ 8)
    simp only [whileN]
    unfold M.bind
    rw [mul_round hX ha hb8 hp]
    by_cases h0 : b = 0
    · subst h0
      rw [if_pos rfl, gmF_zero]
      rfl
    · rw [if_neg h0]
      simp only
      cases i with
      | zero => omega
      | succ i =>
        have hm : a * (b % 2) < 256 := by
          rcases Nat.mod_two_eq_zero_or_one b with h | h <;> rw [h] <;> omega
        exact mul_loop hX i k (tw a) (b / 2) (Nat.xor p (a * (b % 2))) (by rw [Nat.pow_succ] at hb; omega) (by omega) (by omega) (tw_lt a ha) (xor_lt hp hm)
theorem mul_calls (hC : COk C) (hm : ∀ (X : Task → M Value) (L : LoopI) x, evBody C { call := X, loop := L } fm (shsInj [.cell (.int .u8), .cell (.int .u8)] x) = mulText ft X L x)
    (ht : ∀ (X : Task → M Value) (L : LoopI) x, evBody C { call := X, loop := L } ft (shsInj [.cell (.int .u8)] x) = twiceText X L x) {a b : Nat} (ha : a < 256) (hb : b < 256) (w : World) :
    CallsIn Fence.wide 0 C.P fm [.int .u8 (a : Nat), .int .u8 (b : Nat)].toArray w fun e w' => e = .returned (.int .u8 (gm a b : Nat)) ∧ Below w.heap.size w w' := by
  refine closedS hC (lok_whileN 10) (noSums_ok C.P) (n := 3) (v := .int .u8 (gm a b : Nat)) (A' := start0 C.P) rfl rfl ?_ w
  simp only [iterS, noSums]
  refine (congrFun (hm (iterS C (Lw 10) noSums 2) (Lw 10) ((a : Int), (b : Int), ())) (start0 C.P)).trans ?_
  unfold mulText M.bind Lw
  simp only
  have := mul_loop (A := start0 C.P) (ft := ft) (X := iterS C (Lw 10) noSums 2) (fun a ha => by
    simp only [iterS, noSums]
    exact (congrFun (ht (iterS C (Lw 10) noSums 1) (Lw 10) ((a : Int), ())) (start0 C.P)).trans (twice_run ha)) 8 10 a b 0 hb (Nat.le_refl _) (by decide) ha (by decide)
  have h9 : whileN (fun s0_ => mulRound ft (iterS C (fun {σ ρ} f s => whileN f 10 s) noSums 2) s0_) 10 ((a : Int), (b : Int), 0, ()) (start0 C.P) = .ok (.inl ((gm a b : Nat), ())) (start0 C.P) := this
  rw [h9]
  rfl
end
theorem blt_no {a b : Nat} (h : b ≤ a) : Nat.blt a b = false := by
  cases hb : Nat.blt a b with
  | false => rfl
  | true =>
    have : a < b := by simpa using hb
    omega
noncomputable def mulV : List Value → Option Value
  | [.int .u8 (.ofNat a), .int .u8 (.ofNat b)] => Bool.rec none (Bool.rec none (some (.int .u8 (.ofNat (gm a b)))) (Nat.blt b 256)) (Nat.blt a 256)
  | _ => none
noncomputable def sumMul (fm : FuncId) (S : Sums) : Sums := fun f args => Bool.rec (S f args) (mulV args) (Nat.beq fm f)
theorem sumMul_ok {C : Cfg} {ft fm : Nat} {S : Sums} (hC : COk C) (hS : SumsOk C.P S) (hm : ∀ (X : Task → M Value) (L : LoopI) x, evBody C { call := X, loop := L } fm (shsInj [.cell (.int .u8), .cell (.int .u8)] x) = mulText ft X L x)
    (ht : ∀ (X : Task → M Value) (L : LoopI) x, evBody C { call := X, loop := L } ft (shsInj [.cell (.int .u8)] x) = twiceText X L x) : SumsOk C.P (sumMul fm S) := by
  intro f args u hu
  unfold sumMul at hu
  cases hb : Nat.beq fm f with
  | false => rw [hb] at hu; exact hS f args u hu
  | true =>
    rw [hb] at hu
    obtain rfl := Nat.eq_of_beq_eq_true hb
    have hu : mulV args = some u := hu
    unfold mulV at hu
    split at hu
    · rename_i a b _
      rcases Nat.lt_or_ge a 256 with ha | ha
      · rcases Nat.lt_or_ge b 256 with hb2 | hb2
        · rw [show Nat.blt a 256 = true by simpa using ha, show Nat.blt b 256 = true by simpa using hb2] at hu
          obtain rfl : Value.int .u8 (.ofNat (gm a b)) = u := Option.some.inj hu
          exact ⟨rfl, rfl, mul_calls hC hm ht ha hb2⟩
        · rw [show Nat.blt a 256 = true by simpa using ha, blt_no hb2] at hu
          cases hu
      · rw [blt_no ha] at hu
        cases hu
    · cases hu
end Go.Eng
