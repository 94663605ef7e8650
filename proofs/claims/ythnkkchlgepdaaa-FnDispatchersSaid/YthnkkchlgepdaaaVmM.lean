/- Operations of the evaluator Vm are the machine's: moves, numbers, places. Own work; lemmas. No condition. -/
import Derived.Test.YthnkkchlgepdaaaVmL
namespace Go.Vm
open Go.RowKit
set_option linter.unusedVariables false

section
variable {P : Program} {w : World} {env : Env} {tmps : Array Value} {Of Rf : Nat → List Nat} {o : Oper} {d : Nat}

theorem plainSlot {t : Ty} {y : t.den} {x : Value} (h : Rep w t .ro y [x] [] []) (ht : t.isPair = false) : SlotOk w env tmps (.dat t .ro y) x [] [] :=
  ⟨[x], by cases t <;> first | rfl | simp [Ty.isPair] at ht, h⟩

theorem yes_ok (h : Rel w env tmps Of Rf) (hod : o.dst = some d) (hd : d < env.length) {b : Bool} (hrun : (execOp (Go.Act.eval ⟨tmps, []⟩) o).run P w = .ok (.value (.bool b)) w) :
    OpOk P w env tmps Of Rf o (yes env d b) :=
  OpOk.put0 h hod hd fun _ => ⟨by simp, _, [], hrun, plainSlot ⟨rfl, rfl, rfl⟩ rfl, by simp⟩

theorem wrap_in (k : IntKind) (n : Int) : inK k (k.wrap n) := by
  cases k <;> simp only [inK, IntKind.wrap, IntKind.min, IntKind.max, IntKind.signed, IntKind.bits] <;> simp <;> (try split) <;> omega

theorem wrap_id {k : IntKind} {n : Int} (h : inK k n) : k.wrap n = n := by
  cases k <;> simp only [inK, IntKind.wrap, IntKind.min, IntKind.max, IntKind.signed, IntKind.bits] at * <;> simp at * <;> (try split) <;> omega

theorem numb_ok (h : Rel w env tmps Of Rf) (hod : o.dst = some d) (hd : d < env.length) {k : IntKind} {n : Int} (hrun : (execOp (Go.Act.eval ⟨tmps, []⟩) o).run P w = .ok (.value (.int k (k.wrap n))) w) :
    OpOk P w env tmps Of Rf o (numb env d k n) := by
  refine OpOk.put0 h hod hd fun hp => ⟨by simp, _, [], hrun, plainSlot ⟨rfl, rfl, ?_, ?_⟩ rfl, by simp⟩
  · cases k with
    | i64 =>
      have := hp _ rfl
      rw [wrap_id (k := .i64) (n := n) (by simpa [inK, IntKind.min, IntKind.max, IntKind.signed, IntKind.bits] using this)]
      rfl
    | _ => rfl
  · cases k with
    | i64 =>
      have := hp _ rfl
      simpa [wrapI, inK, IntKind.min, IntKind.max, IntKind.signed, IntKind.bits] using this
    | _ => exact wrap_in _ _

theorem intOp_ok (h : Rel w env tmps Of Rf) (hod : o.dst = some d) (hd : d < env.length) {op : BinOp} {k : IntKind} {a b : Int} (ha : inK k a) (hb : inK k b) {t : TypeId} {x y : Operand} {t' : TypeId} (ho : o.op = .binOp op t x y t')
    (hx : Go.Act.eval ⟨tmps, []⟩ x = .int k a) (hy : Go.Act.eval ⟨tmps, []⟩ y = .int k b) : OpOk P w env tmps Of Rf o (intOp env d op k a b) := by
  have hg : ∀ op, (eqGuard op t x y (.int k a) (.int k b)).run P w = .ok () w := by
    intro op; cases op <;> rfl
  have hrun : ∀ {v : Value}, (binOp op t (.int k a) (.int k b)).run P w = .ok v w → (execOp (Go.Act.eval ⟨tmps, []⟩) o).run P w = .ok (.value v) w := by
    intro v hv
    simp [execOp, ho, hx, hy, hg, hv]
  cases op with
  | add => exact numb_ok h hod hd (hrun (by simp [binOp, Op.intArith]))
  | sub => exact numb_ok h hod hd (hrun (by simp [binOp, Op.intArith]))
  | mul => exact numb_ok h hod hd (hrun (by simp [binOp, Op.intArith]))
  | quo =>
    simp only [intOp]
    cases k with
    | i64 =>
      refine OpOk.put0 h hod hd fun hp => ?_
      obtain ⟨h1, h2⟩ := hp _ rfl
      simp [inK, IntKind.min, IntKind.max, IntKind.signed, IntKind.bits] at ha hb
      have hq : inK .i64 (Int.tdiv a b) := by
        simp only [inK, IntKind.min, IntKind.max, IntKind.signed, IntKind.bits]
        simp
        have h3 := Int.natAbs_tdiv_le_natAbs a b
        omega
      refine ⟨by simp, .int .i64 (Int.tdiv a b), [], hrun ?_, plainSlot ⟨rfl, rfl, rfl, hq⟩ rfl, by simp⟩
      simp [binOp, Op.intDiv, h1, wrap_id hq]
    | _ => exact OpOk.bad
  | rem =>
    simp only [intOp]
    cases k with
    | i64 =>
      refine OpOk.put0 h hod hd fun hp => ?_
      have h1 := hp _ rfl
      simp [inK, IntKind.min, IntKind.max, IntKind.signed, IntKind.bits] at ha hb
      have hq : inK .i64 (Int.tmod a b) := by
        simp only [inK, IntKind.min, IntKind.max, IntKind.signed, IntKind.bits]
        simp
        have h3 : (Int.tmod a b).natAbs ≤ a.natAbs := by rw [Int.natAbs_tmod]; exact Nat.mod_le _ _
        by_cases h0 : 0 ≤ a
        · omega
        · have h4 := Int.tmod_nonneg b (a := -a) (by omega)
          rw [Int.neg_tmod] at h4
          omega
      refine ⟨by simp, .int .i64 (Int.tmod a b), [], hrun ?_, plainSlot ⟨rfl, rfl, rfl, hq⟩ rfl, by simp⟩
      simp [binOp, Op.intDiv, h1]
    | _ => exact OpOk.bad
  | eql => exact yes_ok h hod hd (hrun (by simp [binOp, Op.intCmp, Bool.beq_eq_decide_eq]))
  | neq => exact yes_ok h hod hd (hrun (by simp [binOp, Op.intCmp, bne, Bool.beq_eq_decide_eq]))
  | lss => exact yes_ok h hod hd (hrun (by simp [binOp, Op.intCmp]))
  | leq => exact yes_ok h hod hd (hrun (by simp [binOp, Op.intCmp]))
  | gtr => exact yes_ok h hod hd (hrun (by simp [binOp, Op.intCmp]))
  | geq => exact yes_ok h hod hd (hrun (by simp [binOp, Op.intCmp]))
  | and => exact OpOk.put0 h hod hd fun hp => ⟨by simp, _, [], hrun (by simp [binOp, Op.intBits]), plainSlot ⟨rfl, rfl, rfl, wrap_in k _⟩ rfl, by simp⟩
  | or => exact OpOk.put0 h hod hd fun hp => ⟨by simp, _, [], hrun (by simp [binOp, Op.intBits]), plainSlot ⟨rfl, rfl, rfl, wrap_in k _⟩ rfl, by simp⟩
  | xor => exact OpOk.put0 h hod hd fun hp => ⟨by simp, _, [], hrun (by simp [binOp, Op.intBits]), plainSlot ⟨rfl, rfl, rfl, wrap_in k _⟩ rfl, by simp⟩
  | andNot => exact OpOk.put0 h hod hd fun hp => ⟨by simp, _, [], hrun (by simp [binOp, Op.intBits]), plainSlot ⟨rfl, rfl, rfl, wrap_in k _⟩ rfl, by simp⟩
  | _ => exact OpOk.bad

theorem fdiv_in {k : IntKind} {a : Int} (ha : inK k a) (m : Nat) : inK k (a.fdiv (2 ^ m)) := by
  have hp : (0 : Int) < 2 ^ m := Int.pow_pos (by decide)
  have hone : (1 : Int) ≤ 2 ^ m := hp
  have e : a.fdiv (2 ^ m) = a / 2 ^ m := Int.fdiv_eq_ediv_of_nonneg a (Int.le_of_lt hp)
  rw [e]
  generalize (2 : Int) ^ m = q at *
  have hle : ∀ u : Int, 0 ≤ u → a ≤ u → a / q ≤ u := by
    intro u hu hau
    rcases Int.le_total 0 a with h | h
    · exact Int.le_trans (Int.ediv_le_self _ h) hau
    · have : a / q ≤ 0 := by
        have := Int.ediv_le_ediv hp h
        simpa using this
      omega
  have hge : ∀ u : Int, u ≤ 0 → u ≤ a → u ≤ a / q := by
    intro u hu hua
    rw [Int.le_ediv_iff_mul_le hp]
    have : u * q ≤ u * 1 := Int.mul_le_mul_of_nonpos_left hu hone
    omega
  unfold inK at *
  cases k <;> simp [IntKind.min, IntKind.max, IntKind.signed, IntKind.bits] at ha ⊢ <;> exact ⟨hge _ (by decide) ha.1, hle _ (by decide) ha.2⟩

theorem shiftOp_ok (h : Rel w env tmps Of Rf) (hod : o.dst = some d) (hd : d < env.length) {op : BinOp} {k k' : IntKind} {a b : Int} (ha : inK k a) {t : TypeId} {x y : Operand} {t' : TypeId} (ho : o.op = .binOp op t x y t')
    (hx : Go.Act.eval ⟨tmps, []⟩ x = .int k a) (hy : Go.Act.eval ⟨tmps, []⟩ y = .int k' b) : OpOk P w env tmps Of Rf o (shiftOp env d op k a b) := by
  have hg : ∀ op, (eqGuard op t x y (.int k a) (.int k' b)).run P w = .ok () w := by
    intro op; cases op <;> rfl
  have hrun : ∀ {v : Value}, (binOp op t (.int k a) (.int k' b)).run P w = .ok v w → (execOp (Go.Act.eval ⟨tmps, []⟩) o).run P w = .ok (.value v) w := by
    intro v hv
    simp [execOp, ho, hx, hy, hg, hv]
  cases op with
  | shl =>
    refine OpOk.put0 h hod hd fun hp => ?_
    have hb := hp _ rfl
    exact ⟨by simp, _, [], hrun (by simp [binOp, Op.shift, show ¬ b < 0 by omega]), plainSlot ⟨rfl, rfl, rfl, wrap_in k _⟩ rfl, by simp⟩
  | shr =>
    refine OpOk.put0 h hod hd fun hp => ?_
    have hb := hp _ rfl
    exact ⟨by simp, _, [], hrun (by simp [binOp, Op.shift, show ¬ b < 0 by omega]), plainSlot ⟨rfl, rfl, rfl, fdiv_in ha _⟩ rfl, by simp⟩
  | _ => exact OpOk.bad


theorem V.int_of {v : V} {k : IntKind} {a : An} {n : Int} {x : Value} {R' : List Nat} (hv : v = .dat (.int k) a n) (hs : SlotOk w env tmps v x [] R') (hp : a ≠ .hole) : x = .int k n ∧ inK k n := by
  subst hv
  obtain ⟨cs, hk, hr⟩ := hs
  have hk' : cs = [x] := hk
  subst hk'
  cases a <;> first | exact absurd rfl hp | (obtain ⟨-, -, h1, h2⟩ := hr; simp at h1; exact ⟨h1, h2⟩)

theorem V.bool_of {v : V} {a : An} {n : Bool} {x : Value} {R' : List Nat} (hv : v = .dat .bool a n) (hs : SlotOk w env tmps v x [] R') (hp : a ≠ .hole) : x = .bool n := by
  subst hv
  obtain ⟨cs, hk, hr⟩ := hs
  have hk' : cs = [x] := hk
  subst hk'
  cases a <;> first | exact absurd rfl hp | (obtain ⟨-, -, h1⟩ := hr; simpa using h1)

theorem seen_ro {d : Dat} {mk : Nat → Lk} {t : Ty} {a : An} {y : t.den} (h : seen d mk = .dat t a y) : a = .ro := by
  obtain ⟨u, b, z⟩ := d
  cases u with
  | pair u v =>
    simp only [seen] at h
    cases hp : b.plain with
    | true => rw [hp] at h; simp at h; exact h.2.1.symm
    | false => rw [hp] at h; simp at h
  | int k => cases b <;> simp [seen] at h <;> exact h.2.1.symm
  | bool => cases b <;> simp [seen] at h <;> exact h.2.1.symm
  | str => cases b <;> simp [seen] at h <;> exact h.2.1.symm
  | sl e => cases b <;> simp [seen] at h <;> exact h.2.1.symm

/-- an operand's data owns nothing, where no slot that is read keeps such data as it is -/
theorem opnd_ro {x : Operand} {t : Ty} {a : An} {y : t.den} (h : opnd env x = .dat t a y) : a = .ro := by
  cases x with
  | tmp s =>
    simp only [opnd, slotV] at h
    cases hv : (get env s).v with
    | dat t' a' y' => rw [hv] at h; exact seen_ro h
    | _ => rw [hv] at h; cases h
  | const c =>
    simp only [opnd] at h
    cases c with
    | int k n =>
      simp only [constV] at h
      cases hb : (decide (k.min ≤ n) && decide (n ≤ k.max)) with
      | true => rw [hb] at h; simp at h; exact h.2.1.symm
      | false => rw [hb] at h; simp at h
    | bool b => simp [constV] at h; exact h.2.1.symm
    | string s =>
      simp only [constV] at h
      cases hb : Nat.ble s.size maxEl with
      | true => rw [hb] at h; simp at h; exact h.2.1.symm
      | false => rw [hb] at h; simp at h
    | slice p n m => simp only [constV] at h; split at h <;> simp_all
    | _ => simp [constV] at h
  | _ => simp [opnd] at h

theorem opnd_int (h : Rel w env tmps Of Rf) {x : Operand} {k : IntKind} {a : An} {n : Int} (hx : opnd env x = .dat (.int k) a n) : Go.Act.eval ⟨tmps, []⟩ x = .int k n ∧ inK k n := by
  obtain ⟨R', hs, -⟩ := opnd_ok h x
  exact V.int_of hx hs (by rw [opnd_ro hx]; simp)
theorem opnd_bool (h : Rel w env tmps Of Rf) {x : Operand} {a : An} {n : Bool} (hx : opnd env x = .dat .bool a n) : Go.Act.eval ⟨tmps, []⟩ x = .bool n := by
  obtain ⟨R', hs, -⟩ := opnd_ok h x
  exact V.bool_of hx hs (by rw [opnd_ro hx]; simp)

end
end Go.Vm
