/- Formulas of functions. Written by a program of this work out of the evaluator Vm. No condition. -/
import Derived.Test.YthnkkchlgepdaaaDSg
import Derived.KernelRfl
namespace Go.Vm
open Go.Proofs
set_option linter.unusedVariables false
set_option maxRecDepth 100000
namespace impl_isDate
def T : Tab := [(3, ti3)]
theorem tOk : TabOk P T := .cons ok3 (.nil)
def S : SigTab := [((82, []), impl_within.sg)]
theorem sOk : SigOk P S := .cons fn82 (.nil)
def al : List Nat := []
def cuts : Cuts := []
theorem call_ (n : Int) (Q : Bool → Prop) (h :
  impl_within.call n 0 500 (fun r1 =>
   Q r1)) : call n Q :=
  CallsT.fml al cuts Try.f151 sg (n, true) (fun r o => Q r.1) tOk sOk hm Try.func151 (by kernel_rfl) h (by kernel_rfl)

end impl_isDate
namespace spec_l2Job
def T : Tab := [(60, ti60), (3, ti3)]
theorem tOk : TabOk P T := .cons ok60 (.cons ok3 (.nil))
def S : SigTab := [((95, []), spec_l1In.sg)]
theorem sOk : SigOk P S := .cons fn95 (.nil)
def al : List Nat := []
def cuts : Cuts := []
theorem call_ (j : D.Job) (Q : Bool → Prop) (h :
  spec_l1In.call j.1 1 50 (fun r1 =>
   cnd r1
    (spec_l1In.call j.2.1 0 50 (fun r2 =>
      cnd (cond true r2 false)
       (spec_l1In.call j.2.2.1 0 500 (fun r3 =>
         cnd (cond true r3 false)
          (spec_l1In.call j.2.2.2 0 500 (fun r4 =>
            Q (cond true r4 false)))
          (Q false)))
       (Q false)))
    (Q false))) : call j Q :=
  CallsT.fml al cuts Try.f162 sg (j, true) (fun r o => Q r.1) tOk sOk hm Try.func162 (by kernel_rfl) h (by kernel_rfl)

end spec_l2Job
namespace spec_l3Job
def T : Tab := [(39, ti39), (3, ti3)]
theorem tOk : TabOk P T := .cons ok39 (.cons ok3 (.nil))
def S : SigTab := [((95, []), spec_l1In.sg)]
theorem sOk : SigOk P S := .cons fn95 (.nil)
def al : List Nat := []
def cuts : Cuts := []
theorem call_ (jobs : List (D.Job)) (i : Int) (Q : Bool → Prop) (h :
  (((List.length jobs) ≤ 281474976710656) →
  ((-9223372036854775808 : Int) ≤ ((((List.length jobs) : Nat) : Int) - 1) ∧ ((((List.length jobs) : Nat) : Int) - 1) ≤ 9223372036854775807) ∧
  spec_l1In.call i 0 ((((List.length jobs) : Nat) : Int) - 1) (fun r1 =>
   Q r1))) : call jobs i Q :=
  CallsT.fml al cuts Try.f176 sg (jobs, i, true) (fun r o => Q r.1) tOk sOk hm Try.func176 (by kernel_rfl) h (by kernel_rfl)

end spec_l3Job
namespace impl_Dispatcher_has
def T : Tab := [(56, ti56), (54, ti54), (3, ti3), (132, ti132)]
theorem tOk : TabOk P T := .cons ok56 (.cons ok54 (.cons ok3 (.cons ok132 (.nil))))
def S : SigTab := []
theorem sOk : SigOk P S := .nil
def al : List Nat := []
def cuts : Cuts := [(2, [(1, none), (8, none), (9, none), (10, none)])]
def at2 (d : D.Dispatcher) (i : Int) (Q : Bool → Prop) (v102_10 : Int) : Prop := Run P Try.f187 sg (fun r o => Q r.1) (todoOf Try.f187 2) (envOf 19 [(1, .dat (.int .i64) .ro i), (8, .dat (.sl D.tTask) .ro d.2.2.2.2), (9, .dat (.int .i64) .ro (((List.length d.2.2.2.2) : Nat) : Int)), (10, .dat (.int .i64) .ro v102_10)])
theorem at2_ (d : D.Dispatcher) (i : Int) (Q : Bool → Prop) (v102_10 : Int) (h :
  cnd (decide (v102_10 < (((List.length d.2.2.2.2) : Nat) : Int)))
   (((0 : Int) ≤ v102_10 ∧ v102_10 < (((List.length d.2.2.2.2) : Nat) : Int)) ∧
    cnd (decide ((List.getD d.2.2.2.2 (Int.toNat v102_10) (0, (0, 0))).1 = i))
     (Q true)
     (((-9223372036854775808 : Int) ≤ (v102_10 + 1) ∧ (v102_10 + 1) ≤ 9223372036854775807) ∧
      at2 d i Q (v102_10 + 1)))
   (Q false)) : at2 d i Q v102_10 :=
  Run.fml al cuts Try.f187 sg (fun r o => Q r.1) (todoOf Try.f187 2) (envOf 19 [(1, .dat (.int .i64) .ro i), (8, .dat (.sl D.tTask) .ro d.2.2.2.2), (9, .dat (.int .i64) .ro (((List.length d.2.2.2.2) : Nat) : Int)), (10, .dat (.int .i64) .ro v102_10)]) tOk sOk hm h (by kernel_rfl)
theorem call_ (d : D.Dispatcher) (i : Int) (Q : Bool → Prop) (h :
  (((List.length d.2.2.2.2) ≤ 281474976710656) →
  at2 d i Q 0)) : call d i Q :=
  CallsT.fml al cuts Try.f187 sg (d, i, true) (fun r o => Q r.1) tOk sOk hm Try.func187 (by kernel_rfl) h (by kernel_rfl)

end impl_Dispatcher_has
namespace impl_Dispatcher_step
def T : Tab := [(56, ti56), (25, ti25), (3, ti3), (54, ti54), (132, ti132)]
theorem tOk : TabOk P T := .cons ok56 (.cons ok25 (.cons ok3 (.cons ok54 (.cons ok132 (.nil)))))
def S : SigTab := [((194, []), impl_Dispatcher_running.sg), ((195, []), impl_Dispatcher_picked.sg)]
theorem sOk : SigOk P S := .cons fn194 (.cons fn195 (.nil))
def al : List Nat := []
def cuts : Cuts := [(2, [(1, none), (2, none), (7, none), (8, none), (9, none)])]
def at2 (d : D.Dispatcher) (Q : D.Dispatcher → Prop) (d2_1 : D.Dispatcher) (v72_7 : List (Int)) (v82_8 : Int) (v92_9 : Int) : Prop := Run P Try.f188 sg (fun r o => Q r.1) (todoOf Try.f188 2) (envOf 36 [(1, .box D.tDispatcher (.pair .ro (.pair .ro (.pair .ro (.pair (.own 60 .ro) (.own 132 .ro))))) d2_1), (2, .box D.tDispatcher (.pair .ro (.pair .ro (.pair .ro (.pair (.own 60 .ro) (.own 132 .ro))))) (0, (0, (0, (([] : List (D.Job)), ([] : List (D.Task))))))), (7, .dat (.sl (.int .i64)) (.own 3 .ro) v72_7), (8, .dat (.int .i64) .ro v82_8), (9, .dat (.int .i64) .ro v92_9)])
theorem at2_ (d : D.Dispatcher) (Q : D.Dispatcher → Prop) (d2_1 : D.Dispatcher) (v72_7 : List (Int)) (v82_8 : Int) (v92_9 : Int) (h :
  cnd (decide (v92_9 < v82_8))
   (((0 : Int) ≤ v92_9 ∧ v92_9 < (((List.length v72_7) : Nat) : Int)) ∧
    cnd (decide (0 ≤ (List.getD v72_7 (0 + (Int.toNat v92_9)) 0)))
     (((-9223372036854775808 : Int) ≤ (v92_9 + 1) ∧ (v92_9 + 1) ≤ 9223372036854775807) ∧
      at2 d Q d2_1 v72_7 v82_8 (v92_9 + 1))
     (impl_Dispatcher_picked.call d2_1 (fun r1 =>
       cnd (decide (0 ≤ r1))
        (((List.length d2_1.2.2.2.2) + (List.length [(r1, (v92_9, d2_1.2.2.1))]) ≤ 4294967296) ∧
         ((-9223372036854775808 : Int) ≤ (v92_9 + 1) ∧ (v92_9 + 1) ≤ 9223372036854775807) ∧
         at2 d Q (d2_1.1, (d2_1.2.1, (d2_1.2.2.1, (d2_1.2.2.2.1, (d2_1.2.2.2.2 ++ [(r1, (v92_9, d2_1.2.2.1))]))))) v72_7 v82_8 (v92_9 + 1))
        (((-9223372036854775808 : Int) ≤ (v92_9 + 1) ∧ (v92_9 + 1) ≤ 9223372036854775807) ∧
         at2 d Q d2_1 v72_7 v82_8 (v92_9 + 1)))))
   (((-9223372036854775808 : Int) ≤ (d2_1.2.2.1 + 1) ∧ (d2_1.2.2.1 + 1) ≤ 9223372036854775807) ∧
    Q (d2_1.1, (d2_1.2.1, ((d2_1.2.2.1 + 1), d2_1.2.2.2))))) : at2 d Q d2_1 v72_7 v82_8 v92_9 :=
  Run.fml al cuts Try.f188 sg (fun r o => Q r.1) (todoOf Try.f188 2) (envOf 36 [(1, .box D.tDispatcher (.pair .ro (.pair .ro (.pair .ro (.pair (.own 60 .ro) (.own 132 .ro))))) d2_1), (2, .box D.tDispatcher (.pair .ro (.pair .ro (.pair .ro (.pair (.own 60 .ro) (.own 132 .ro))))) (0, (0, (0, (([] : List (D.Job)), ([] : List (D.Task))))))), (7, .dat (.sl (.int .i64)) (.own 3 .ro) v72_7), (8, .dat (.int .i64) .ro v82_8), (9, .dat (.int .i64) .ro v92_9)]) tOk sOk hm h (by kernel_rfl)
theorem call_ (d : D.Dispatcher) (Q : D.Dispatcher → Prop) (h :
  impl_Dispatcher_running.call d (fun r1 =>
   (((List.length r1) ≤ 281474976710656) →
   at2 d Q d r1 (((List.length r1) : Nat) : Int) 0))) : call d Q :=
  CallsT.fml al cuts Try.f188 sg (d, true) (fun r o => Q r.1) tOk sOk hm Try.func188 (by kernel_rfl) h (by kernel_rfl)

end impl_Dispatcher_step
namespace impl_Dispatcher_without
def T : Tab := [(56, ti56), (39, ti39), (3, ti3), (54, ti54), (132, ti132)]
theorem tOk : TabOk P T := .cons ok56 (.cons ok39 (.cons ok3 (.cons ok54 (.cons ok132 (.nil)))))
def S : SigTab := []
theorem sOk : SigOk P S := .nil
def al : List Nat := []
def cuts : Cuts := [(3, [(1, none), (2, none), (4, none), (19, none), (20, none), (21, none)])]
def at3 (d : D.Dispatcher) (i : Int) (Q : D.Dispatcher → Prop) (d3_2 : D.Dispatcher) (v213_21 : Int) : Prop := Run P Try.f189 sg (fun r o => Q r.1) (todoOf Try.f189 3) (envOf 41 [(1, .dat (.int .i64) .ro i), (2, .box D.tDispatcher (.pair .ro (.pair .ro (.pair .ro (.pair (.own 60 .ro) (.own 132 .ro))))) d3_2), (4, .box D.tDispatcher (.pair .ro (.pair .ro (.pair .ro (.pair (.own 60 .ro) (.own 132 .ro))))) (0, (0, (0, (([] : List (D.Job)), ([] : List (D.Task))))))), (19, .ref ⟨2, 0, [], 4⟩ none), (20, .dat (.int .i64) .ro (((List.length d.2.2.2.2) : Nat) : Int)), (21, .dat (.int .i64) .ro v213_21)])
theorem at3_ (d : D.Dispatcher) (i : Int) (Q : D.Dispatcher → Prop) (d3_2 : D.Dispatcher) (v213_21 : Int) (h :
  cnd (decide (v213_21 < (((List.length d.2.2.2.2) : Nat) : Int)))
   (((0 : Int) ≤ v213_21 ∧ v213_21 < (((List.length d3_2.2.2.2.2) : Nat) : Int)) ∧
    cnd (decide (i < (List.getD d3_2.2.2.2.2 (0 + (Int.toNat v213_21)) (0, (0, 0))).1))
     (((0 : Int) ≤ v213_21 ∧ v213_21 < (((List.length d3_2.2.2.2.2) : Nat) : Int)) ∧
      ((-9223372036854775808 : Int) ≤ ((List.getD d3_2.2.2.2.2 (0 + (Int.toNat v213_21)) (0, (0, 0))).1 - 1) ∧ ((List.getD d3_2.2.2.2.2 (0 + (Int.toNat v213_21)) (0, (0, 0))).1 - 1) ≤ 9223372036854775807) ∧
      ((0 : Int) ≤ v213_21 ∧ v213_21 < (((List.length d3_2.2.2.2.2) : Nat) : Int)) ∧
      ((-9223372036854775808 : Int) ≤ (v213_21 + 1) ∧ (v213_21 + 1) ≤ 9223372036854775807) ∧
      at3 d i Q (d3_2.1, (d3_2.2.1, (d3_2.2.2.1, (d3_2.2.2.2.1, (List.set d3_2.2.2.2.2 (0 + (Int.toNat v213_21)) (((List.getD d3_2.2.2.2.2 (0 + (Int.toNat v213_21)) (0, (0, 0))).1 - 1), (List.getD d3_2.2.2.2.2 (0 + (Int.toNat v213_21)) (0, (0, 0))).2)))))) (v213_21 + 1))
     (((-9223372036854775808 : Int) ≤ (v213_21 + 1) ∧ (v213_21 + 1) ≤ 9223372036854775807) ∧
      at3 d i Q d3_2 (v213_21 + 1)))
   (Q d3_2)) : at3 d i Q d3_2 v213_21 :=
  Run.fml al cuts Try.f189 sg (fun r o => Q r.1) (todoOf Try.f189 3) (envOf 41 [(1, .dat (.int .i64) .ro i), (2, .box D.tDispatcher (.pair .ro (.pair .ro (.pair .ro (.pair (.own 60 .ro) (.own 132 .ro))))) d3_2), (4, .box D.tDispatcher (.pair .ro (.pair .ro (.pair .ro (.pair (.own 60 .ro) (.own 132 .ro))))) (0, (0, (0, (([] : List (D.Job)), ([] : List (D.Task))))))), (19, .ref ⟨2, 0, [], 4⟩ none), (20, .dat (.int .i64) .ro (((List.length d.2.2.2.2) : Nat) : Int)), (21, .dat (.int .i64) .ro v213_21)]) tOk sOk hm h (by kernel_rfl)
theorem call_ (d : D.Dispatcher) (i : Int) (Q : D.Dispatcher → Prop) (h :
  ((0 : Int) ≤ 0 ∧ 0 ≤ i ∧ i ≤ (((List.length d.2.2.2.1) : Nat) : Int)) ∧
  ((-9223372036854775808 : Int) ≤ (i + 1) ∧ (i + 1) ≤ 9223372036854775807) ∧
  ((0 : Int) ≤ (i + 1) ∧ (i + 1) ≤ (((List.length d.2.2.2.1) : Nat) : Int) ∧ (((List.length d.2.2.2.1) : Nat) : Int) ≤ (((List.length d.2.2.2.1) : Nat) : Int)) ∧
  ((List.length (List.take (Int.toNat (i - 0)) (List.drop 0 d.2.2.2.1))) + (List.length (List.take (Int.toNat ((((List.length d.2.2.2.1) : Nat) : Int) - (i + 1))) (List.drop (Int.toNat (i + 1)) d.2.2.2.1))) ≤ 4294967296) ∧
  (((List.length d.2.2.2.2) ≤ 281474976710656) →
  at3 d i Q (d.1, (d.2.1, (d.2.2.1, (((List.take (Int.toNat (i - 0)) (List.drop 0 d.2.2.2.1)) ++ (List.take (Int.toNat ((((List.length d.2.2.2.1) : Nat) : Int) - (i + 1))) (List.drop (Int.toNat (i + 1)) d.2.2.2.1))), d.2.2.2.2)))) 0)) : call d i Q :=
  CallsT.fml al cuts Try.f189 sg (d, i, true) (fun r o => Q r.1) tOk sOk hm Try.func189 (by kernel_rfl) h (by kernel_rfl)

end impl_Dispatcher_without
namespace spec_l12Idle
def T : Tab := [(56, ti56), (39, ti39), (3, ti3)]
theorem tOk : TabOk P T := .cons ok56 (.cons ok39 (.cons ok3 (.nil)))
def S : SigTab := [((176, []), spec_l3Job.sg), ((196, []), spec_l12Task.sg)]
theorem sOk : SigOk P S := .cons fn176 (.cons fn196 (.nil))
def al : List Nat := []
def cuts : Cuts := []
theorem call_ (d : D.Dispatcher) (job : Int) (Q : Bool → Prop) (h :
  spec_l3Job.call d.2.2.2.1 job (fun r1 =>
   cnd r1
    (spec_l12Task.call d job (fun r2 =>
      Q (cond true (!r2) false)))
    (Q false))) : call d job Q :=
  CallsT.fml al cuts Try.f190 sg (d, job, true) (fun r o => Q r.1) tOk sOk hm Try.func190 (by kernel_rfl) h (by kernel_rfl)

end spec_l12Idle
namespace spec_l12Used
def T : Tab := [(56, ti56), (54, ti54), (3, ti3), (132, ti132)]
theorem tOk : TabOk P T := .cons ok56 (.cons ok54 (.cons ok3 (.cons ok132 (.nil))))
def S : SigTab := []
theorem sOk : SigOk P S := .nil
def al : List Nat := []
def cuts : Cuts := [(2, [(1, none), (2, none), (5, none)])]
def at2 (d : D.Dispatcher) (machine : Int) (Q : Bool → Prop) (i2_5 : Int) : Prop := Run P Try.f191 sg (fun r o => Q r.1) (todoOf Try.f191 2) (envOf 21 [(1, .dat (.int .i64) .ro machine), (2, .box D.tDispatcher .ro d), (5, .dat (.int .i64) .ro i2_5)])
theorem at2_ (d : D.Dispatcher) (machine : Int) (Q : Bool → Prop) (i2_5 : Int) (h :
  (((List.length d.2.2.2.2) ≤ 281474976710656) →
  cnd (decide (i2_5 < (((List.length d.2.2.2.2) : Nat) : Int)))
   (((0 : Int) ≤ i2_5 ∧ i2_5 < (((List.length d.2.2.2.2) : Nat) : Int)) ∧
    cnd (decide ((List.getD d.2.2.2.2 (Int.toNat i2_5) (0, (0, 0))).2.1 = machine))
     (Q true)
     (((-9223372036854775808 : Int) ≤ (i2_5 + 1) ∧ (i2_5 + 1) ≤ 9223372036854775807) ∧
      at2 d machine Q (i2_5 + 1)))
   (Q false))) : at2 d machine Q i2_5 :=
  Run.fml al cuts Try.f191 sg (fun r o => Q r.1) (todoOf Try.f191 2) (envOf 21 [(1, .dat (.int .i64) .ro machine), (2, .box D.tDispatcher .ro d), (5, .dat (.int .i64) .ro i2_5)]) tOk sOk hm h (by kernel_rfl)
theorem call_ (d : D.Dispatcher) (machine : Int) (Q : Bool → Prop) (h :
  at2 d machine Q 0) : call d machine Q :=
  CallsT.fml al cuts Try.f191 sg (d, machine, true) (fun r o => Q r.1) tOk sOk hm Try.func191 (by kernel_rfl) h (by kernel_rfl)

end spec_l12Used
end Go.Vm
