/-
 The engine, part 16: what a function of the program comes to over an abstract heap; each part is proved against the model.
-/
import Derived.Test.YtlcigkdflbfdgaaGreatDoorEng15
namespace Go.Eng
open Go
section
variable {C : Cfg} {I : Interp} {φ : Phi} {A : AW} {ρ : Type} {r : Res ρ} {w : World} {ro : Option Nat} {P : Program} {a : Act} {o : Oper} {K : Value → M ρ}
theorem digits_spec : ∀ (n t : Nat) (acc : Array Value), (Extern.BytealgMakeNoZero.digits n t acc).size = acc.size + n ∧ ∀ i x, (Extern.BytealgMakeNoZero.digits n t acc)[i]? = some x → acc.size ≤ i → ∃ m, x = .int .u8 m
 | 0, _, acc => ⟨rfl, fun i x h hi => by
  have := (Array.getElem?_eq_some_iff.1 h).1
  simp only [Extern.BytealgMakeNoZero.digits] at this
  omega⟩
 | n + 1, t, acc => by
  obtain ⟨h1, h2⟩ := digits_spec n (t / 256) (acc.push (.int .u8 (Int.ofNat (t % 256))))
  refine ⟨by simp only [Extern.BytealgMakeNoZero.digits, h1, Array.size_push]; omega, fun i x h hi => ?_⟩
  simp only [Extern.BytealgMakeNoZero.digits] at h
  by_cases e : acc.size + 1 ≤ i
  ·exact h2 i x h (by simpa using e)
  ·have hi' : i = acc.size := by omega
   subst hi'
   have keep : ∀ (n t : Nat) (acc : Array Value) (j : Nat), j < acc.size → (Extern.BytealgMakeNoZero.digits n t acc)[j]? = acc[j]? := by
    intro n
    induction n with
    | zero => intro t acc j _; rfl
    | succ n ih =>
     intro t acc j hj
     simp only [Extern.BytealgMakeNoZero.digits]
     rw [ih _ _ _ (by simp; omega), Array.getElem?_push_lt hj, Array.getElem?_eq_getElem hj]
   rw [keep _ _ _ _ (by simp)] at h
   simp at h
   exact ⟨_, h.symm⟩
theorem evExt_sound {e : Ext} {args us : List Value} (h : evExt P e args K A = r) (hr : r ≠ .stuck) (hs : Sim P φ A w) (ha : Rs φ args us) : DoesV P φ A w r K (extFn e us.toArray) := by
 unfold evExt at h
 cases e with
 | noEscape =>
  match args, us, ha, h with
  | [], us, ha, h => exact stuck_ok (A := A) h hr
  | [x], us, ha, h =>
   obtain ⟨u, k, rfl, h1, h2⟩ := ha.cons_inv
   obtain rfl := h2.nil_inv
   exact valW h.symm rfl h1 hs
  | _ :: _ :: _, us, ha, h => exact stuck_ok (A := A) h hr
 | mapsClone =>
  match args, us, ha, h with
  | [], us, ha, h => exact stuck_ok (A := A) h hr
  | [x], us, ha, h =>
   obtain ⟨u, k, rfl, h1, h2⟩ := ha.cons_inv
   obtain rfl := h2.nil_inv
   cases h1 with
   | @iface t v u hvu =>
    cases hvu with
    | @map m c hbr =>
     have h9 : (match A.get m with
      | some (.map es clock) => K (.iface t (.map (some A.next))) (A.alloc (.map es clock))
      | _ => .stuck) = r := h
     cases hg : A.get m with
     | none => rw [hg] at h9; exact absurd h9.symm hr
     | some oa =>
      rw [hg] at h9
      cases oa with
      | map es clock =>
       obtain ⟨ex, o', hφ, hw, fs, rfl, hes⟩ := hs.liveB hbr hg
       obtain ⟨s1, s2⟩ := hs.alloc (o := .map es clock) (o' := .map fs clock) (ex := 0) (w' := { w with heap := w.heap.push (.map fs clock) }) rfl ⟨fs, rfl, hes⟩
       refine ⟨_, _, _, _, .iface t (.map (some w.heap.size)), h9.symm, ?_, s1, .iface t (.map ⟨_, setPhi_same _ _ _, fun x y e => by simp at e; exact e.1⟩), s2⟩
       show (Extern.MapsClone.clone #[.iface t (.map (some c))]).run P w = _
       have e : Extern.MapsClone.clone #[.iface t (.map (some c))] = (do
        let .map entries clock ← getObj c | stuck "maps.clone: a map expected"
        pure (.iface t (.map (some (← newObj (.map entries clock)))))) := rfl
       rw [e]
       simp [getObj, newObj, Sem.run, hw]
      | _ => exact absurd h9.symm hr
    | _ => exact stuck_ok (A := A) h hr
   | _ => exact stuck_ok (A := A) h hr
  | x :: y :: l, us, ha, h => exact stuck_ok (A := A) (by cases x <;> first | exact h | (rename_i _ q; cases q <;> first | exact h | (rename_i m; cases m <;> exact h))) hr
 | indexByte =>
  match args, us, ha, h with
  | [], us, ha, h => exact stuck_ok (A := A) h hr
  | [x], us, ha, h => exact stuck_ok (A := A) (by cases x <;> exact h) hr
  | [x, y], us, ha, h =>
   obtain ⟨u, k, rfl, h1, h2⟩ := ha.cons_inv
   obtain ⟨v, k', rfl, h3, h4⟩ := h2.cons_inv
   obtain rfl := h4.nil_inv
   cases h1 with
   | string s =>
    cases h3 with
    | int kd c =>
     cases kd <;> first | (exact stuck_ok (A := A) h hr) | skip
     exact valW h.symm (Lib.run_indexByteString s c w) (.int _ _) hs
    | _ => exact stuck_ok (A := A) h hr
   | _ => exact stuck_ok (A := A) h hr
  | x :: y :: z :: l, us, ha, h => exact stuck_ok (A := A) (by cases x <;> first | exact h | (cases y <;> first | exact h | (rename_i k _; cases k <;> exact h))) hr
 | countByte =>
  match args, us, ha, h with
  | [], us, ha, h => exact stuck_ok (A := A) h hr
  | [x], us, ha, h => exact stuck_ok (A := A) (by cases x <;> exact h) hr
  | [x, y], us, ha, h =>
   obtain ⟨u, k, rfl, h1, h2⟩ := ha.cons_inv
   obtain ⟨v, k', rfl, h3, h4⟩ := h2.cons_inv
   obtain rfl := h4.nil_inv
   cases h1 with
   | string s =>
    cases h3 with
    | int kd c =>
     cases kd <;> first | (exact stuck_ok (A := A) h hr) | skip
     exact valW h.symm (Lib.run_countString s c w) (.int _ _) hs
    | _ => exact stuck_ok (A := A) h hr
   | _ => exact stuck_ok (A := A) h hr
  | x :: y :: z :: l, us, ha, h => exact stuck_ok (A := A) (by cases x <;> first | exact h | (cases y <;> first | exact h | (rename_i k _; cases k <;> exact h))) hr
 | cmpString =>
  match args, us, ha, h with
  | [], us, ha, h => exact stuck_ok (A := A) h hr
  | [x], us, ha, h => exact stuck_ok (A := A) (by cases x <;> exact h) hr
  | [x, y], us, ha, h =>
   obtain ⟨u, k, rfl, h1, h2⟩ := ha.cons_inv
   obtain ⟨v, k', rfl, h3, h4⟩ := h2.cons_inv
   obtain rfl := h4.nil_inv
   cases h1 with
   | string s =>
    cases h3 with
    | string t => exact valW h.symm (by
     have e : extFn .cmpString #[.string s, .string t] = (do pure (goInt (Extern.BytealgCompare.cmp (← Extern.Bytes.bytesOf (.string s)) (← Extern.Bytes.bytesOf (.string t))))) := rfl
     show (extFn .cmpString #[.string s, .string t]).run P w = _
     rw [e]
     simp [Extern.Bytes.bytesOf, goInt]) (.int _ _) hs
    | _ => exact stuck_ok (A := A) h hr
   | _ => exact stuck_ok (A := A) h hr
  | x :: y :: z :: l, us, ha, h => exact stuck_ok (A := A) (by cases x <;> first | exact h | (cases y <;> exact h)) hr
 | makeNoZero ps rs =>
  match args, us, ha, h with
  | [], us, ha, h => exact stuck_ok (A := A) h hr
  | [x], us, ha, h =>
   obtain ⟨u, k, rfl, h1, h2⟩ := ha.cons_inv
   obtain rfl := h2.nil_inv
   cases h1 with
   | int kd n =>
    cases kd <;> first | (exact stuck_ok (A := A) h hr) | skip
    simp only at h
    cases h0 : (rs[0]?).bind P.underlying with
    | none => rw [h0] at h; exact stuck_ok (A := A) h hr
    | some d =>
     rw [h0] at h
     cases d with
     | slice e =>
      simp only at h
      obtain ⟨hc, h⟩ := condM_ok h hr
      simp only [Bool.and_eq_true, decide_eq_true_eq] at hc
      obtain ⟨⟨hone, hn0⟩, hn⟩ := hc
      have hone := isOne_eq hone
      obtain ⟨t, ht, hu⟩ := Option.bind_eq_some_iff.1 h0
      obtain ⟨k, w1, hk, hw1, hso⟩ := run_choose_append (P := P) (w := w) n.toNat 0 e
      obtain ⟨b, w2, hb, hw2, hso2⟩ : ∃ b w2, (choose (.extern "internal/bytealg.MakeNoZero.bytes" 0)).run P w1 = .ok b w2 ∧ w2.heap = w1.heap ∧ SameOut w1 w2 :=
       ⟨_, { w1 with drawn := w1.drawn + 1 }, by simp [choose, Sem.run, Question.forced, Question.cut]; rfl, rfl, rfl, rfl, rfl⟩
      obtain ⟨arr, harr⟩ : ∃ arr : Array Value, arr = Extern.BytealgMakeNoZero.digits (n.toNat + k) b #[] := ⟨_, rfl⟩
      obtain ⟨d1, d2⟩ := digits_spec (n.toNat + k) b #[]
      rw [← harr] at d1 d2
      have hsz : arr.size = n.toNat + k := by simpa using d1
      have hs2 := (hs.heap hw1).heap hw2
      have hful : (Row.full undef n.toNat).list = List.replicate n.toNat undef := Row.full_list _ _
      obtain ⟨s1, s2⟩ := hs2.alloc (o := .cells (Row.full undef n.toNat) e true (0, 0) false) (o' := .cells arr e (0, 0)) (ex := k) (w' := { w2 with heap := w2.heap.push (.cells arr e (0, 0)) }) rfl ⟨arr, (0, 0), rfl, by rw [hful]; simp [hsz, hone], by
        rw [hful]
        exact ⟨by simp [hsz], fun i x y hx hy => by
        rw [List.getElem?_replicate] at hx
        split at hx
        ·obtain rfl := Option.some.inj hx
         rw [List.getElem?_take] at hy
         split at hy
         ·obtain ⟨m, rfl⟩ := d2 i y (by simpa using hy) (Nat.zero_le _)
          exact .unk _ _
         ·cases hy
        ·cases hx⟩, fun e => (by cases e), by simp, by intro _ i _; omega, fun _ => rfl, Nat.le_refl _⟩
      have hsw : w2.heap.size = w.heap.size := by rw [hw2, hw1]
      refine ⟨_, _, _, _, .slice (some ⟨w2.heap.size, 0, none⟩) n.toNat (n.toNat + k), h.symm, ?_, s1, .slice _ (SR.new (setPhi_same _ _ _) (Nat.le_refl _) rfl), (s2.heap hw2.symm rfl hso2 (SameOut.refl _)).heap hw1.symm rfl hso (SameOut.refl _)⟩
      have hng : (decide (n < 0) || decide (n > 2 ^ 48)) = false := by
       simp only [Bool.or_eq_false_iff, decide_eq_false_iff_not]; omega
      show (Extern.BytealgMakeNoZero.makeNoZero ps rs #[.int .i64 n]).run P w = _
      delta Extern.BytealgMakeNoZero.makeNoZero Extern.BytealgMakeNoZero.makeNoZero.match_3
      simp only [ht]
      rw [dif_pos (show (#[Value.int IntKind.i64 n] : Array Value).size = 1 from rfl)]
      change Sem.run P (underlying t >>= _) w = _
      simp only [Sem.run_bind, run_und hu, Result.andThen_ok]
      rw [if_neg (by rw [hng]; simp)]
      simp only [Sem.run_bind, hk, Result.andThen_ok, run_askRoom', hb, Sem.run_pure, ← harr, newRow, run_newObj]
     | _ => exact stuck_ok (A := A) h hr
   | _ => exact stuck_ok (A := A) h hr
  | x :: y :: l, us, ha, h => exact stuck_ok (A := A) (by cases x <;> first | exact h | (rename_i k _; cases k <;> exact h)) hr
theorem callF_up (hC : COk C) (hI : IOk C.P I) {g : FuncId} {args us : List Value} (h : callF C I g args K A = r) (hr : r ≠ .stuck) (hs : Sim C.P φ A w) (hg : GlobOk C.P φ) (ha : Rs φ args us) :
  OpUp C.P ro φ A w a o r K (callFunc g us.toArray) := by
 unfold callF at h
 cases he : C.ext g with
 | some e =>
  rw [he] at h
  obtain ⟨fn, h1, h2, h3, h4, h5⟩ := hC.ext g e he
  obtain ⟨v, A', φ', w', v', k1, k2, k3, k4, k5⟩ := evExt_sound h hr hs ha
  unfold OpUp
  simp only [callFunc, Sem.run_bind, run_program, Result.andThen_ok, h1, h2, Bool.false_eq_true, if_false, h3, if_true, run_mark, h4, h5, k2, Sem.run_pure]
  exact ⟨v, v', A', φ', k1, k4, rfl, k3, k5⟩
 | none =>
  rw [he] at h
  simp only at h
  cases hfn : C.P.funcs[g]? with
  | none => rw [hfn] at h; exact stuck_ok (A := A) h hr
  | some fn =>
   rw [hfn] at h
   simp only at h
   cases hb : fn.body with
   | none => rw [hb] at h; exact stuck_ok (A := A) h hr
   | some c =>
    rw [hb] at h
    simp only at h
    have hn := hC.name g fn hfn (by rw [hb]; rfl)
    unfold OpUp
    simp only [callFunc, Sem.run_bind, run_program, Result.andThen_ok, hfn, hn, Bool.false_eq_true, if_false, hb, Option.isNone_some, Sem.run_pure, Oper.uponIn]
    refine ⟨fun e => by simp [Fence.wide] at e, callsIn_Fw ?_⟩
    unfold M.callS M.bind at h
    have hcall : I.call (.call g args) A ≠ .stuck := fun e => by rw [e] at h; exact hr h.symm
    refine CallsIn.mono (hI.call g args A _ rfl hcall φ w us hg hs ha) fun e w1 hend => ?_
    cases e with
    | returned u =>
     obtain ⟨v, φ', A', k1, k2, k3, k4⟩ := hend
     rw [k1] at h
     simp only at h
     obtain ⟨x, hx, h⟩ := need_ok h hr
     rw [RSh.inj_prj hx] at h
     exact ⟨v, u, A', φ', h.symm, k2, rfl, k3, k4⟩
    | panicked chain =>
     obtain ⟨v, u, φ', A', k1, k2, k3, k4, k5⟩ := hend
     rw [k1] at h
     simp only at h
     exact ⟨rfl, v, u, A', φ', by rw [k2], h.symm, k3, k4, k5⟩
    | outgrown => exact hend.elim
theorem callV_up (hC : COk C) (hI : IOk C.P I) {f uf : Value} {args us : List Value} (h : callV C I f args K A = r) (hr : r ≠ .stuck) (hs : Sim C.P φ A w) (hg : GlobOk C.P φ) (hf : VR φ f uf) (ha : Rs φ args us) :
  OpUp C.P ro φ A w a o r K (do let d ← Deferred.ofValue uf us.toArray; invoke d.target d.args) := by
 unfold callV at h
 cases hf with
 | @func f g a1 b1 c1 d1 hfg ha1 hac hb1 hbd =>
  cases f with
  | func f =>
   cases g with
   | func g =>
    obtain rfl : f = g := hfg
    have hR : Rs φ (a1.toList ++ args ++ b1.toList) (c1.toList ++ us ++ d1.toList) := (Rs.append ⟨ha1, hac⟩ ha).append ⟨hb1, hbd⟩
    have := callF_up (ro := ro) (a := a) (o := o) hC hI h hr hs hg hR
    have he : (do let d ← Deferred.ofValue (.func (.func f) c1 d1) us.toArray; invoke d.target d.args : Sem Next) = callFunc f (c1.toList ++ us ++ d1.toList).toArray := by
     have : (c1.toList ++ us ++ d1.toList).toArray = c1 ++ us.toArray ++ d1 := by apply Array.ext'; simp
     rw [this]
     rfl
    rw [he]
    exact this
   | _ => exact hfg.elim
  | yield l =>
   cases g with
   | yield c =>
    obtain ⟨hc, h⟩ := condM_ok h hr
    simp only [Bool.and_eq_true, List.isEmpty_iff] at hc
    have e1 : c1 = #[] := by
     have : c1.toList.length = 0 := by rw [← ha1, hc.1]; rfl
     simpa using this
    subst e1
    unfold M.callS M.bind at h
    have hcall : I.call (.round l args) A ≠ .stuck := fun e => by rw [e] at h; exact hr h.symm
    obtain ⟨f, tmps, assign, body, hy, hround⟩ := hI.round l args A _ rfl hcall φ w c us hg hs hfg ha
    unfold OpUp
    have he : (do let d ← Deferred.ofValue (.func (.yield c) #[] d1) us.toArray; invoke d.target d.args : Sem Next) = Instr.yield c (#[] ++ us.toArray) := rfl
    rw [he, show (#[] ++ us.toArray : Array Value) = us.toArray by simp, hy]
    refine ⟨fun e => by simp [Fence.wide] at e, roundIn_Fw (RoundIn.mono hround fun e w1 hend => ?_)⟩
    cases e with
    | returned u =>
     obtain ⟨v, φ', A', k1, k2, k3, k4⟩ := hend
     rw [k1] at h
     simp only at h
     obtain ⟨x, hx, h⟩ := need_ok h hr
     have hi : Value.bool x = v := RSh.inj_prj (r := .one (.cell .bool)) hx
     rw [hi] at h
     exact ⟨v, u, A', φ', h.symm, k2, rfl, k3, k4⟩
    | panicked chain =>
     obtain ⟨v, u, φ', A', k1, k2, k3, k4, k5⟩ := hend
     rw [k1] at h
     simp only at h
     exact ⟨rfl, v, u, A', φ', by rw [k2], h.symm, k3, k4, k5⟩
    | outgrown => exact hend.elim
   | _ => exact hfg.elim
  | _ => exact stuck_ok (A := A) h hr
 | _ => exact stuck_ok (A := A) h hr
theorem methodA_run {t : TypeId} {name : String} {f : FuncId} {u : Value} {n : Nat} (h : methodA C t name = some f) : (method (n + 1) t u name).run C.P w = .ok (f, u) w := by
 unfold methodA at h
 cases hi : C.P.info? t with
 | none => rw [hi] at h; cases h
 | some i =>
  rw [hi] at h
  simp only at h
  cases hm : i.methods.find? (·.name == name) with
  | none => rw [hm] at h; cases h
  | some m =>
   rw [hm] at h
   simp only at h
   obtain ⟨hp, h⟩ := cond_some h
   have hpe : m.path.toList = [] := by simpa using hp
   have hpi : m.path.isEmpty = true := hp
   cases hmf : m.func with
   | none => rw [hmf] at h; cases h
   | some q =>
    obtain ⟨g, b⟩ := q
    rw [hmf] at h
    cases b with
    | true =>
     simp only at h
     cases hu : C.P.underlying t with
     | none => rw [hu] at h; cases h
     | some d =>
      rw [hu] at h
      cases d <;> first | (cases h; done) | skip
      obtain rfl := Option.some.inj h
      simp only [method, Sem.run_bind, run_info hi, Result.andThen_ok, hm, hpe, follow, Sem.run_pure, hmf, receiverAt, run_und hu, Place.get]
    | false =>
     simp only at h
     cases hu : C.P.underlying t with
     | none => rw [hu] at h; cases h
     | some d =>
      rw [hu] at h
      cases d <;> first | (cases h; done) | skip
      all_goals
       obtain rfl := Option.some.inj h
       simp only [method, Sem.run_bind, run_info hi, Result.andThen_ok, hm, hpe, follow, Sem.run_pure, hmf, receiverAt, run_und hu, Place.get]
end
end Go.Eng
