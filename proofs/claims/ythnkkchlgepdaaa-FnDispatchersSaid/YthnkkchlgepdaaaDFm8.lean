/- Formulas of functions. Written by a program of this work out of the evaluator Vm. No condition. -/
import Derived.Test.YthnkkchlgepdaaaDSg
import Derived.KernelRfl
namespace Go.Vm
open Go.Proofs
set_option linter.unusedVariables false
set_option maxRecDepth 100000
namespace impl_difference
def T : Tab := [(60, ti60), (3, ti3)]
theorem tOk : TabOk P T := .cons ok60 (.cons ok3 (.nil))
def S : SigTab := []
theorem sOk : SigOk P S := .nil
def al : List Nat := []
def cuts : Cuts := []
theorem call_ (a : D.Job) (b : D.Job) (objective : Int) (Q : Int → Prop) (h :
  cnd (decide (objective = 1))
   (((-9223372036854775808 : Int) ≤ (a.2.2.1 - b.2.2.1) ∧ (a.2.2.1 - b.2.2.1) ≤ 9223372036854775807) ∧
    Q (a.2.2.1 - b.2.2.1))
   (cnd (decide (objective = 2))
     (((-9223372036854775808 : Int) ≤ (a.1 - b.1) ∧ (a.1 - b.1) ≤ 9223372036854775807) ∧
      Q (a.1 - b.1))
     (cnd (decide (objective = 3))
       (((-9223372036854775808 : Int) ≤ (a.1 * b.2.1) ∧ (a.1 * b.2.1) ≤ 9223372036854775807) ∧
        ((-9223372036854775808 : Int) ≤ (b.1 * a.2.1) ∧ (b.1 * a.2.1) ≤ 9223372036854775807) ∧
        ((-9223372036854775808 : Int) ≤ ((a.1 * b.2.1) - (b.1 * a.2.1)) ∧ ((a.1 * b.2.1) - (b.1 * a.2.1)) ≤ 9223372036854775807) ∧
        Q ((a.1 * b.2.1) - (b.1 * a.2.1)))
       (((-9223372036854775808 : Int) ≤ (a.2.2.2 - b.2.2.2) ∧ (a.2.2.2 - b.2.2.2) ≤ 9223372036854775807) ∧
        Q (a.2.2.2 - b.2.2.2))))) : call a b objective Q :=
  CallsT.fml al cuts Try.f200 sg (a, b, objective, true) (fun r o => Q r.1) tOk sOk hm Try.func200 (by kernel_rfl) h (by kernel_rfl)

end impl_difference
namespace spec_l12Waiting
def T : Tab := [(56, ti56), (25, ti25), (39, ti39), (3, ti3), (60, ti60)]
theorem tOk : TabOk P T := .cons ok56 (.cons ok25 (.cons ok39 (.cons ok3 (.cons ok60 (.nil)))))
def S : SigTab := [((196, []), spec_l12Task.sg)]
theorem sOk : SigOk P S := .cons fn196 (.nil)
def al : List Nat := []
def cuts : Cuts := [(3, [(1, none), (3, none), (4, none)])]
def at3 (d : D.Dispatcher) (Q : List (Int) → Prop) (out3_3 : List (Int)) (i3_4 : Int) : Prop := Run P Try.f202 sg (fun r o => Q r.1) (todoOf Try.f202 3) (envOf 33 [(1, .box D.tDispatcher .ro d), (3, .dat (.sl (.int .i64)) (.own 3 .ro) out3_3), (4, .dat (.int .i64) .ro i3_4)])
theorem at3_ (d : D.Dispatcher) (Q : List (Int) → Prop) (out3_3 : List (Int)) (i3_4 : Int) (h :
  (((List.length d.2.2.2.1) ≤ 281474976710656) →
  cnd (decide (i3_4 < (((List.length d.2.2.2.1) : Nat) : Int)))
   (((0 : Int) ≤ i3_4 ∧ i3_4 < (((List.length d.2.2.2.1) : Nat) : Int)) ∧
    cnd (decide ((List.getD d.2.2.2.1 (Int.toNat i3_4) (0, (0, (0, 0)))).2.2.1 ≤ d.2.2.1))
     (spec_l12Task.call d i3_4 (fun r1 =>
       cnd (cond true (!r1) false)
        (((List.length out3_3) + (List.length [i3_4]) ≤ 4294967296) ∧
         ((-9223372036854775808 : Int) ≤ (i3_4 + 1) ∧ (i3_4 + 1) ≤ 9223372036854775807) ∧
         at3 d Q (out3_3 ++ [i3_4]) (i3_4 + 1))
        (((-9223372036854775808 : Int) ≤ (i3_4 + 1) ∧ (i3_4 + 1) ≤ 9223372036854775807) ∧
         at3 d Q out3_3 (i3_4 + 1))))
     (((-9223372036854775808 : Int) ≤ (i3_4 + 1) ∧ (i3_4 + 1) ≤ 9223372036854775807) ∧
      at3 d Q out3_3 (i3_4 + 1)))
   (Q out3_3))) : at3 d Q out3_3 i3_4 :=
  Run.fml al cuts Try.f202 sg (fun r o => Q r.1) (todoOf Try.f202 3) (envOf 33 [(1, .box D.tDispatcher .ro d), (3, .dat (.sl (.int .i64)) (.own 3 .ro) out3_3), (4, .dat (.int .i64) .ro i3_4)]) tOk sOk hm h (by kernel_rfl)
theorem call_ (d : D.Dispatcher) (Q : List (Int) → Prop) (h :
  at3 d Q ([] : List (Int)) 0) : call d Q :=
  CallsT.fml al cuts Try.f202 sg (d, true) (fun r o => Q r.1) tOk sOk hm Try.func202 (by kernel_rfl) h (by kernel_rfl)

end spec_l12Waiting
namespace spec_l12Ahead
def T : Tab := [(56, ti56), (3, ti3), (39, ti39)]
theorem tOk : TabOk P T := .cons ok56 (.cons ok3 (.cons ok39 (.nil)))
def S : SigTab := [((204, []), spec_l3Gap.sg)]
theorem sOk : SigOk P S := .cons fn204 (.nil)
def al : List Nat := []
def cuts : Cuts := []
theorem call_ (d : D.Dispatcher) (i : Int) (j : Int) (Q : Int → Prop) (h :
  cnd (decide (d.2.1 = 2))
   (spec_l3Gap.call d.2.2.2.1 2 i j (fun r1 =>
     Q r1))
   (cnd (decide (d.2.1 = 3))
     (spec_l3Gap.call d.2.2.2.1 3 i j (fun r2 =>
       Q r2))
     (cnd (decide (d.2.1 = 4))
       (spec_l3Gap.call d.2.2.2.1 4 i j (fun r3 =>
         Q r3))
       (((-9223372036854775808 : Int) ≤ (i - j) ∧ (i - j) ≤ 9223372036854775807) ∧
        Q (i - j))))) : call d i j Q :=
  CallsT.fml al cuts Try.f203 sg (d, i, j, true) (fun r o => Q r.1) tOk sOk hm Try.func203 (by kernel_rfl) h (by kernel_rfl)

end spec_l12Ahead
namespace spec_l3Gap
def T : Tab := [(39, ti39), (60, ti60), (3, ti3)]
theorem tOk : TabOk P T := .cons ok39 (.cons ok60 (.cons ok3 (.nil)))
def S : SigTab := []
theorem sOk : SigOk P S := .nil
def al : List Nat := []
def cuts : Cuts := []
theorem call_ (jobs : List (D.Job)) (objective : Int) (i : Int) (j : Int) (Q : Int → Prop) (h :
  ((0 : Int) ≤ i ∧ i < (((List.length jobs) : Nat) : Int)) ∧
  ((0 : Int) ≤ j ∧ j < (((List.length jobs) : Nat) : Int)) ∧
  cnd (decide (objective = 1))
   (((-9223372036854775808 : Int) ≤ ((List.getD jobs (Int.toNat i) (0, (0, (0, 0)))).2.2.1 - (List.getD jobs (Int.toNat j) (0, (0, (0, 0)))).2.2.1) ∧ ((List.getD jobs (Int.toNat i) (0, (0, (0, 0)))).2.2.1 - (List.getD jobs (Int.toNat j) (0, (0, (0, 0)))).2.2.1) ≤ 9223372036854775807) ∧
    Q ((List.getD jobs (Int.toNat i) (0, (0, (0, 0)))).2.2.1 - (List.getD jobs (Int.toNat j) (0, (0, (0, 0)))).2.2.1))
   (cnd (decide (objective = 2))
     (((-9223372036854775808 : Int) ≤ ((List.getD jobs (Int.toNat i) (0, (0, (0, 0)))).1 - (List.getD jobs (Int.toNat j) (0, (0, (0, 0)))).1) ∧ ((List.getD jobs (Int.toNat i) (0, (0, (0, 0)))).1 - (List.getD jobs (Int.toNat j) (0, (0, (0, 0)))).1) ≤ 9223372036854775807) ∧
      Q ((List.getD jobs (Int.toNat i) (0, (0, (0, 0)))).1 - (List.getD jobs (Int.toNat j) (0, (0, (0, 0)))).1))
     (cnd (decide (objective = 3))
       (((-9223372036854775808 : Int) ≤ ((List.getD jobs (Int.toNat i) (0, (0, (0, 0)))).1 * (List.getD jobs (Int.toNat j) (0, (0, (0, 0)))).2.1) ∧ ((List.getD jobs (Int.toNat i) (0, (0, (0, 0)))).1 * (List.getD jobs (Int.toNat j) (0, (0, (0, 0)))).2.1) ≤ 9223372036854775807) ∧
        ((-9223372036854775808 : Int) ≤ ((List.getD jobs (Int.toNat j) (0, (0, (0, 0)))).1 * (List.getD jobs (Int.toNat i) (0, (0, (0, 0)))).2.1) ∧ ((List.getD jobs (Int.toNat j) (0, (0, (0, 0)))).1 * (List.getD jobs (Int.toNat i) (0, (0, (0, 0)))).2.1) ≤ 9223372036854775807) ∧
        ((-9223372036854775808 : Int) ≤ (((List.getD jobs (Int.toNat i) (0, (0, (0, 0)))).1 * (List.getD jobs (Int.toNat j) (0, (0, (0, 0)))).2.1) - ((List.getD jobs (Int.toNat j) (0, (0, (0, 0)))).1 * (List.getD jobs (Int.toNat i) (0, (0, (0, 0)))).2.1)) ∧ (((List.getD jobs (Int.toNat i) (0, (0, (0, 0)))).1 * (List.getD jobs (Int.toNat j) (0, (0, (0, 0)))).2.1) - ((List.getD jobs (Int.toNat j) (0, (0, (0, 0)))).1 * (List.getD jobs (Int.toNat i) (0, (0, (0, 0)))).2.1)) ≤ 9223372036854775807) ∧
        Q (((List.getD jobs (Int.toNat i) (0, (0, (0, 0)))).1 * (List.getD jobs (Int.toNat j) (0, (0, (0, 0)))).2.1) - ((List.getD jobs (Int.toNat j) (0, (0, (0, 0)))).1 * (List.getD jobs (Int.toNat i) (0, (0, (0, 0)))).2.1)))
       (((-9223372036854775808 : Int) ≤ ((List.getD jobs (Int.toNat i) (0, (0, (0, 0)))).2.2.2 - (List.getD jobs (Int.toNat j) (0, (0, (0, 0)))).2.2.2) ∧ ((List.getD jobs (Int.toNat i) (0, (0, (0, 0)))).2.2.2 - (List.getD jobs (Int.toNat j) (0, (0, (0, 0)))).2.2.2) ≤ 9223372036854775807) ∧
        Q ((List.getD jobs (Int.toNat i) (0, (0, (0, 0)))).2.2.2 - (List.getD jobs (Int.toNat j) (0, (0, (0, 0)))).2.2.2))))) : call jobs objective i j Q :=
  CallsT.fml al cuts Try.f204 sg (jobs, objective, i, j, true) (fun r o => Q r.1) tOk sOk hm Try.func204 (by kernel_rfl) h (by kernel_rfl)

end spec_l3Gap
end Go.Vm
