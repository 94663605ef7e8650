/- Formulas of functions. Written by a program of this work out of the evaluator Vm. No condition. -/
import Derived.Test.YthnkkchlgepdaaaDSg
import Derived.KernelRfl
namespace Go.Vm
open Go.Proofs
set_option linter.unusedVariables false
set_option maxRecDepth 100000
namespace spec_l12Step
def T : Tab := [(56, ti56), (3, ti3), (54, ti54), (132, ti132)]
theorem tOk : TabOk P T := .cons ok56 (.cons ok3 (.cons ok54 (.cons ok132 (.nil))))
def S : SigTab := [((118, []), spec_l12Own.sg), ((197, []), spec_l12First.sg), ((198, []), spec_l12Running.sg)]
theorem sOk : SigOk P S := .cons fn118 (.cons fn197 (.cons fn198 (.nil)))
def al : List Nat := []
def cuts : Cuts := [(3, [(1, none), (2, none), (3, none), (4, none)])]
def at3 (d : D.Dispatcher) (Q : D.Dispatcher → Prop) (out3_3 : D.Dispatcher) (machine3_4 : Int) : Prop := Run P Try.f192 sg (fun r o => Q r.1) (todoOf Try.f192 3) (envOf 39 [(1, .box D.tDispatcher .ro d), (2, .box D.tDispatcher (.pair .ro (.pair .ro (.pair .ro (.pair (.own 60 .ro) (.own 132 .ro))))) (0, (0, (0, (([] : List (D.Job)), ([] : List (D.Task))))))), (3, .box D.tDispatcher (.pair .ro (.pair .ro (.pair .ro (.pair (.own 60 .ro) (.own 132 .ro))))) out3_3), (4, .dat (.int .i64) .ro machine3_4)])
theorem at3_ (d : D.Dispatcher) (Q : D.Dispatcher → Prop) (out3_3 : D.Dispatcher) (machine3_4 : Int) (h :
  cnd (decide (machine3_4 < d.1))
   (spec_l12First.call out3_3 (fun r1 =>
     spec_l12Running.call out3_3 machine3_4 (fun r2 =>
      cnd (decide (r2 < 0))
       (cnd (cond true (decide (0 ≤ r1)) false)
         (((List.length out3_3.2.2.2.2) + (List.length [(r1, (machine3_4, out3_3.2.2.1))]) ≤ 4294967296) ∧
          ((-9223372036854775808 : Int) ≤ (machine3_4 + 1) ∧ (machine3_4 + 1) ≤ 9223372036854775807) ∧
          at3 d Q (out3_3.1, (out3_3.2.1, (out3_3.2.2.1, (out3_3.2.2.2.1, (out3_3.2.2.2.2 ++ [(r1, (machine3_4, out3_3.2.2.1))]))))) (machine3_4 + 1))
         (((-9223372036854775808 : Int) ≤ (machine3_4 + 1) ∧ (machine3_4 + 1) ≤ 9223372036854775807) ∧
          at3 d Q out3_3 (machine3_4 + 1)))
       (((-9223372036854775808 : Int) ≤ (machine3_4 + 1) ∧ (machine3_4 + 1) ≤ 9223372036854775807) ∧
        at3 d Q out3_3 (machine3_4 + 1)))))
   (((-9223372036854775808 : Int) ≤ (out3_3.2.2.1 + 1) ∧ (out3_3.2.2.1 + 1) ≤ 9223372036854775807) ∧
    Q (out3_3.1, (out3_3.2.1, ((out3_3.2.2.1 + 1), out3_3.2.2.2))))) : at3 d Q out3_3 machine3_4 :=
  Run.fml al cuts Try.f192 sg (fun r o => Q r.1) (todoOf Try.f192 3) (envOf 39 [(1, .box D.tDispatcher .ro d), (2, .box D.tDispatcher (.pair .ro (.pair .ro (.pair .ro (.pair (.own 60 .ro) (.own 132 .ro))))) (0, (0, (0, (([] : List (D.Job)), ([] : List (D.Task))))))), (3, .box D.tDispatcher (.pair .ro (.pair .ro (.pair .ro (.pair (.own 60 .ro) (.own 132 .ro))))) out3_3), (4, .dat (.int .i64) .ro machine3_4)]) tOk sOk hm h (by kernel_rfl)
theorem call_ (d : D.Dispatcher) (Q : D.Dispatcher → Prop) (h :
  spec_l12Own.call d (fun r1 =>
   at3 d Q r1 0)) : call d Q :=
  CallsT.fml al cuts Try.f192 sg (d, true) (fun r o => Q r.1) tOk sOk hm Try.func192 (by kernel_rfl) h (by kernel_rfl)

end spec_l12Step
namespace impl_Dispatcher_running
def T : Tab := [(56, ti56), (3, ti3), (54, ti54), (132, ti132), (25, ti25)]
theorem tOk : TabOk P T := .cons ok56 (.cons ok3 (.cons ok54 (.cons ok132 (.cons ok25 (.nil)))))
def S : SigTab := [((122, []), impl_Dispatcher_endOf.sg)]
theorem sOk : SigOk P S := .cons fn122 (.nil)
def al : List Nat := []
def cuts : Cuts := [(3, [(1, none), (3, some ((.sl (.int .i64)), (.own 3 .ro))), (4, none)]), (7, [(1, none), (3, some ((.sl (.int .i64)), (.own 3 .ro))), (4, none), (5, none), (15, none), (16, none), (17, none)])]
def at3 (d : D.Dispatcher) (Q : List (Int) → Prop) (out3_3 : List (Int)) (machine3_4 : Int) : Prop := Run P Try.f194 sg (fun r o => Q r.1) (todoOf Try.f194 3) (envOf 48 [(1, .box D.tDispatcher .ro d), (3, .dat (.sl (.int .i64)) (.own 3 .ro) out3_3), (4, .dat (.int .i64) .ro machine3_4)])
def at7 (d : D.Dispatcher) (Q : List (Int) → Prop) (out7_3 : List (Int)) (machine7_4 : Int) (now7_5 : Int) (v177_17 : Int) : Prop := Run P Try.f194 sg (fun r o => Q r.1) (todoOf Try.f194 7) (envOf 48 [(1, .box D.tDispatcher .ro d), (3, .dat (.sl (.int .i64)) (.own 3 .ro) out7_3), (4, .dat (.int .i64) .ro machine7_4), (5, .dat (.int .i64) .ro now7_5), (15, .dat (.sl D.tTask) .ro d.2.2.2.2), (16, .dat (.int .i64) .ro (((List.length d.2.2.2.2) : Nat) : Int)), (17, .dat (.int .i64) .ro v177_17)])
theorem at3_ (d : D.Dispatcher) (Q : List (Int) → Prop) (out3_3 : List (Int)) (machine3_4 : Int) (h :
  cnd (decide (machine3_4 < d.1))
   ((((List.length d.2.2.2.2) ≤ 281474976710656) →
    at7 d Q out3_3 machine3_4 (-1) 0))
   (Q out3_3)) : at3 d Q out3_3 machine3_4 :=
  Run.fml al cuts Try.f194 sg (fun r o => Q r.1) (todoOf Try.f194 3) (envOf 48 [(1, .box D.tDispatcher .ro d), (3, .dat (.sl (.int .i64)) (.own 3 .ro) out3_3), (4, .dat (.int .i64) .ro machine3_4)]) tOk sOk hm h (by kernel_rfl)
theorem at7_ (d : D.Dispatcher) (Q : List (Int) → Prop) (out7_3 : List (Int)) (machine7_4 : Int) (now7_5 : Int) (v177_17 : Int) (h :
  cnd (decide (v177_17 < (((List.length d.2.2.2.2) : Nat) : Int)))
   (((0 : Int) ≤ v177_17 ∧ v177_17 < (((List.length d.2.2.2.2) : Nat) : Int)) ∧
    cnd (decide ((List.getD d.2.2.2.2 (Int.toNat v177_17) (0, (0, 0))).2.1 = machine7_4))
     (cnd (cond true (decide ((List.getD d.2.2.2.2 (Int.toNat v177_17) (0, (0, 0))).2.2 ≤ d.2.2.1)) false)
       (impl_Dispatcher_endOf.call d (List.getD d.2.2.2.2 (Int.toNat v177_17) (0, (0, 0))) (fun r1 =>
         cnd (cond true (decide (d.2.2.1 < r1)) false)
          (((-9223372036854775808 : Int) ≤ (v177_17 + 1) ∧ (v177_17 + 1) ≤ 9223372036854775807) ∧
           at7 d Q out7_3 machine7_4 (List.getD d.2.2.2.2 (Int.toNat v177_17) (0, (0, 0))).1 (v177_17 + 1))
          (((-9223372036854775808 : Int) ≤ (v177_17 + 1) ∧ (v177_17 + 1) ≤ 9223372036854775807) ∧
           at7 d Q out7_3 machine7_4 now7_5 (v177_17 + 1))))
       (((-9223372036854775808 : Int) ≤ (v177_17 + 1) ∧ (v177_17 + 1) ≤ 9223372036854775807) ∧
        at7 d Q out7_3 machine7_4 now7_5 (v177_17 + 1)))
     (((-9223372036854775808 : Int) ≤ (v177_17 + 1) ∧ (v177_17 + 1) ≤ 9223372036854775807) ∧
      at7 d Q out7_3 machine7_4 now7_5 (v177_17 + 1)))
   (((List.length out7_3) + (List.length [now7_5]) ≤ 4294967296) ∧
    ((-9223372036854775808 : Int) ≤ (machine7_4 + 1) ∧ (machine7_4 + 1) ≤ 9223372036854775807) ∧
    at3 d Q (out7_3 ++ [now7_5]) (machine7_4 + 1))) : at7 d Q out7_3 machine7_4 now7_5 v177_17 :=
  Run.fml al cuts Try.f194 sg (fun r o => Q r.1) (todoOf Try.f194 7) (envOf 48 [(1, .box D.tDispatcher .ro d), (3, .dat (.sl (.int .i64)) (.own 3 .ro) out7_3), (4, .dat (.int .i64) .ro machine7_4), (5, .dat (.int .i64) .ro now7_5), (15, .dat (.sl D.tTask) .ro d.2.2.2.2), (16, .dat (.int .i64) .ro (((List.length d.2.2.2.2) : Nat) : Int)), (17, .dat (.int .i64) .ro v177_17)]) tOk sOk hm h (by kernel_rfl)
theorem call_ (d : D.Dispatcher) (Q : List (Int) → Prop) (h :
  at3 d Q ([] : List (Int)) 0) : call d Q :=
  CallsT.fml al cuts Try.f194 sg (d, true) (fun r o => Q r.1) tOk sOk hm Try.func194 (by kernel_rfl) h (by kernel_rfl)

end impl_Dispatcher_running
namespace impl_Dispatcher_picked
def T : Tab := [(56, ti56), (25, ti25), (3, ti3), (39, ti39), (60, ti60)]
theorem tOk : TabOk P T := .cons ok56 (.cons ok25 (.cons ok3 (.cons ok39 (.cons ok60 (.nil)))))
def S : SigTab := [((199, []), impl_Dispatcher_waiting.sg), ((201, []), impl_Dispatcher_rule.sg), ((200, []), impl_difference.sg)]
theorem sOk : SigOk P S := .cons fn199 (.cons fn201 (.cons fn200 (.nil)))
def al : List Nat := []
def cuts : Cuts := [(3, [(1, none), (3, none), (7, none), (8, none), (9, none)])]
def at3 (d : D.Dispatcher) (Q : Int → Prop) (next3_3 : Int) (v73_7 : List (Int)) (v83_8 : Int) (v93_9 : Int) : Prop := Run P Try.f195 sg (fun r o => Q r.1) (todoOf Try.f195 3) (envOf 39 [(1, .box D.tDispatcher .ro d), (3, .dat (.int .i64) .ro next3_3), (7, .dat (.sl (.int .i64)) (.own 3 .ro) v73_7), (8, .dat (.int .i64) .ro v83_8), (9, .dat (.int .i64) .ro v93_9)])
theorem at3_ (d : D.Dispatcher) (Q : Int → Prop) (next3_3 : Int) (v73_7 : List (Int)) (v83_8 : Int) (v93_9 : Int) (h :
  cnd (decide (v93_9 < v83_8))
   (((0 : Int) ≤ v93_9 ∧ v93_9 < (((List.length v73_7) : Nat) : Int)) ∧
    cnd (decide (next3_3 < 0))
     (((-9223372036854775808 : Int) ≤ (v93_9 + 1) ∧ (v93_9 + 1) ≤ 9223372036854775807) ∧
      at3 d Q (List.getD v73_7 (0 + (Int.toNat v93_9)) 0) v73_7 v83_8 (v93_9 + 1))
     (cnd (decide (d.2.1 ≠ 1))
       (((0 : Int) ≤ (List.getD v73_7 (0 + (Int.toNat v93_9)) 0) ∧ (List.getD v73_7 (0 + (Int.toNat v93_9)) 0) < (((List.length d.2.2.2.1) : Nat) : Int)) ∧
        ((0 : Int) ≤ next3_3 ∧ next3_3 < (((List.length d.2.2.2.1) : Nat) : Int)) ∧
        impl_Dispatcher_rule.call d (fun r1 =>
         impl_difference.call (List.getD d.2.2.2.1 (Int.toNat (List.getD v73_7 (0 + (Int.toNat v93_9)) 0)) (0, (0, (0, 0)))) (List.getD d.2.2.2.1 (Int.toNat next3_3) (0, (0, (0, 0)))) r1 (fun r2 =>
          cnd (cond false true (cond true (decide (r2 < 0)) false))
           (((-9223372036854775808 : Int) ≤ (v93_9 + 1) ∧ (v93_9 + 1) ≤ 9223372036854775807) ∧
            at3 d Q (List.getD v73_7 (0 + (Int.toNat v93_9)) 0) v73_7 v83_8 (v93_9 + 1))
           (((-9223372036854775808 : Int) ≤ (v93_9 + 1) ∧ (v93_9 + 1) ≤ 9223372036854775807) ∧
            at3 d Q next3_3 v73_7 v83_8 (v93_9 + 1)))))
       (cnd (cond false true false)
         (((-9223372036854775808 : Int) ≤ (v93_9 + 1) ∧ (v93_9 + 1) ≤ 9223372036854775807) ∧
          at3 d Q (List.getD v73_7 (0 + (Int.toNat v93_9)) 0) v73_7 v83_8 (v93_9 + 1))
         (((-9223372036854775808 : Int) ≤ (v93_9 + 1) ∧ (v93_9 + 1) ≤ 9223372036854775807) ∧
          at3 d Q next3_3 v73_7 v83_8 (v93_9 + 1)))))
   (Q next3_3)) : at3 d Q next3_3 v73_7 v83_8 v93_9 :=
  Run.fml al cuts Try.f195 sg (fun r o => Q r.1) (todoOf Try.f195 3) (envOf 39 [(1, .box D.tDispatcher .ro d), (3, .dat (.int .i64) .ro next3_3), (7, .dat (.sl (.int .i64)) (.own 3 .ro) v73_7), (8, .dat (.int .i64) .ro v83_8), (9, .dat (.int .i64) .ro v93_9)]) tOk sOk hm h (by kernel_rfl)
theorem call_ (d : D.Dispatcher) (Q : Int → Prop) (h :
  impl_Dispatcher_waiting.call d (fun r1 =>
   (((List.length r1) ≤ 281474976710656) →
   at3 d Q (-1) r1 (((List.length r1) : Nat) : Int) 0))) : call d Q :=
  CallsT.fml al cuts Try.f195 sg (d, true) (fun r o => Q r.1) tOk sOk hm Try.func195 (by kernel_rfl) h (by kernel_rfl)

end impl_Dispatcher_picked
namespace spec_l12Task
def T : Tab := [(56, ti56), (54, ti54), (3, ti3), (132, ti132)]
theorem tOk : TabOk P T := .cons ok56 (.cons ok54 (.cons ok3 (.cons ok132 (.nil))))
def S : SigTab := []
theorem sOk : SigOk P S := .nil
def al : List Nat := []
def cuts : Cuts := [(2, [(1, none), (2, none), (5, none)])]
def at2 (d : D.Dispatcher) (job : Int) (Q : Bool → Prop) (i2_5 : Int) : Prop := Run P Try.f196 sg (fun r o => Q r.1) (todoOf Try.f196 2) (envOf 21 [(1, .dat (.int .i64) .ro job), (2, .box D.tDispatcher .ro d), (5, .dat (.int .i64) .ro i2_5)])
theorem at2_ (d : D.Dispatcher) (job : Int) (Q : Bool → Prop) (i2_5 : Int) (h :
  (((List.length d.2.2.2.2) ≤ 281474976710656) →
  cnd (decide (i2_5 < (((List.length d.2.2.2.2) : Nat) : Int)))
   (((0 : Int) ≤ i2_5 ∧ i2_5 < (((List.length d.2.2.2.2) : Nat) : Int)) ∧
    cnd (decide ((List.getD d.2.2.2.2 (Int.toNat i2_5) (0, (0, 0))).1 = job))
     (Q true)
     (((-9223372036854775808 : Int) ≤ (i2_5 + 1) ∧ (i2_5 + 1) ≤ 9223372036854775807) ∧
      at2 d job Q (i2_5 + 1)))
   (Q false))) : at2 d job Q i2_5 :=
  Run.fml al cuts Try.f196 sg (fun r o => Q r.1) (todoOf Try.f196 2) (envOf 21 [(1, .dat (.int .i64) .ro job), (2, .box D.tDispatcher .ro d), (5, .dat (.int .i64) .ro i2_5)]) tOk sOk hm h (by kernel_rfl)
theorem call_ (d : D.Dispatcher) (job : Int) (Q : Bool → Prop) (h :
  at2 d job Q 0) : call d job Q :=
  CallsT.fml al cuts Try.f196 sg (d, job, true) (fun r o => Q r.1) tOk sOk hm Try.func196 (by kernel_rfl) h (by kernel_rfl)

end spec_l12Task
namespace spec_l12First
def T : Tab := [(56, ti56), (25, ti25), (3, ti3)]
theorem tOk : TabOk P T := .cons ok56 (.cons ok25 (.cons ok3 (.nil)))
def S : SigTab := [((202, []), spec_l12Waiting.sg), ((203, []), spec_l12Ahead.sg)]
theorem sOk : SigOk P S := .cons fn202 (.cons fn203 (.nil))
def al : List Nat := []
def cuts : Cuts := [(6, [(1, none), (3, none), (4, none), (5, none)])]
def at6 (d : D.Dispatcher) (Q : Int → Prop) (list6_3 : List (Int)) (best6_4 : Int) (i6_5 : Int) : Prop := Run P Try.f197 sg (fun r o => Q r.1) (todoOf Try.f197 6) (envOf 33 [(1, .box D.tDispatcher .ro d), (3, .dat (.sl (.int .i64)) (.own 3 .ro) list6_3), (4, .dat (.int .i64) .ro best6_4), (5, .dat (.int .i64) .ro i6_5)])
theorem at6_ (d : D.Dispatcher) (Q : Int → Prop) (list6_3 : List (Int)) (best6_4 : Int) (i6_5 : Int) (h :
  (((List.length list6_3) ≤ 281474976710656) →
  cnd (decide (i6_5 < (((List.length list6_3) : Nat) : Int)))
   (((0 : Int) ≤ i6_5 ∧ i6_5 < (((List.length list6_3) : Nat) : Int)) ∧
    spec_l12Ahead.call d (List.getD list6_3 (0 + (Int.toNat i6_5)) 0) best6_4 (fun r1 =>
     cnd (decide (r1 < 0))
      (((0 : Int) ≤ i6_5 ∧ i6_5 < (((List.length list6_3) : Nat) : Int)) ∧
       ((-9223372036854775808 : Int) ≤ (i6_5 + 1) ∧ (i6_5 + 1) ≤ 9223372036854775807) ∧
       at6 d Q list6_3 (List.getD list6_3 (0 + (Int.toNat i6_5)) 0) (i6_5 + 1))
      (((-9223372036854775808 : Int) ≤ (i6_5 + 1) ∧ (i6_5 + 1) ≤ 9223372036854775807) ∧
       at6 d Q list6_3 best6_4 (i6_5 + 1))))
   (Q best6_4))) : at6 d Q list6_3 best6_4 i6_5 :=
  Run.fml al cuts Try.f197 sg (fun r o => Q r.1) (todoOf Try.f197 6) (envOf 33 [(1, .box D.tDispatcher .ro d), (3, .dat (.sl (.int .i64)) (.own 3 .ro) list6_3), (4, .dat (.int .i64) .ro best6_4), (5, .dat (.int .i64) .ro i6_5)]) tOk sOk hm h (by kernel_rfl)
theorem call_ (d : D.Dispatcher) (Q : Int → Prop) (h :
  spec_l12Waiting.call d (fun r1 =>
   (((List.length r1) ≤ 281474976710656) →
   cnd (decide ((((List.length r1) : Nat) : Int) = 0))
    (Q (-1))
    (((0 : Int) ≤ 0 ∧ 0 < (((List.length r1) : Nat) : Int)) ∧
     at6 d Q r1 (List.getD r1 (0 + (Int.toNat 0)) 0) 1)))) : call d Q :=
  CallsT.fml al cuts Try.f197 sg (d, true) (fun r o => Q r.1) tOk sOk hm Try.func197 (by kernel_rfl) h (by kernel_rfl)

end spec_l12First
namespace spec_l12Running
def T : Tab := [(56, ti56), (54, ti54), (3, ti3), (132, ti132), (39, ti39), (60, ti60)]
theorem tOk : TabOk P T := .cons ok56 (.cons ok54 (.cons ok3 (.cons ok132 (.cons ok39 (.cons ok60 (.nil))))))
def S : SigTab := []
theorem sOk : SigOk P S := .nil
def al : List Nat := []
def cuts : Cuts := [(2, [(1, none), (2, none), (5, none)])]
def at2 (d : D.Dispatcher) (machine : Int) (Q : Int → Prop) (i2_5 : Int) : Prop := Run P Try.f198 sg (fun r o => Q r.1) (todoOf Try.f198 2) (envOf 47 [(1, .dat (.int .i64) .ro machine), (2, .box D.tDispatcher .ro d), (5, .dat (.int .i64) .ro i2_5)])
theorem at2_ (d : D.Dispatcher) (machine : Int) (Q : Int → Prop) (i2_5 : Int) (h :
  (((List.length d.2.2.2.2) ≤ 281474976710656) →
  cnd (decide (i2_5 < (((List.length d.2.2.2.2) : Nat) : Int)))
   (((0 : Int) ≤ i2_5 ∧ i2_5 < (((List.length d.2.2.2.2) : Nat) : Int)) ∧
    cnd (decide ((List.getD d.2.2.2.2 (Int.toNat i2_5) (0, (0, 0))).2.1 = machine))
     (cnd (cond true (decide ((List.getD d.2.2.2.2 (Int.toNat i2_5) (0, (0, 0))).2.2 ≤ d.2.2.1)) false)
       (((0 : Int) ≤ (List.getD d.2.2.2.2 (Int.toNat i2_5) (0, (0, 0))).1 ∧ (List.getD d.2.2.2.2 (Int.toNat i2_5) (0, (0, 0))).1 < (((List.length d.2.2.2.1) : Nat) : Int)) ∧
        ((-9223372036854775808 : Int) ≤ ((List.getD d.2.2.2.2 (Int.toNat i2_5) (0, (0, 0))).2.2 + (List.getD d.2.2.2.1 (Int.toNat (List.getD d.2.2.2.2 (Int.toNat i2_5) (0, (0, 0))).1) (0, (0, (0, 0)))).1) ∧ ((List.getD d.2.2.2.2 (Int.toNat i2_5) (0, (0, 0))).2.2 + (List.getD d.2.2.2.1 (Int.toNat (List.getD d.2.2.2.2 (Int.toNat i2_5) (0, (0, 0))).1) (0, (0, (0, 0)))).1) ≤ 9223372036854775807) ∧
        cnd (cond true (decide (d.2.2.1 < ((List.getD d.2.2.2.2 (Int.toNat i2_5) (0, (0, 0))).2.2 + (List.getD d.2.2.2.1 (Int.toNat (List.getD d.2.2.2.2 (Int.toNat i2_5) (0, (0, 0))).1) (0, (0, (0, 0)))).1))) false)
         (Q (List.getD d.2.2.2.2 (Int.toNat i2_5) (0, (0, 0))).1)
         (((-9223372036854775808 : Int) ≤ (i2_5 + 1) ∧ (i2_5 + 1) ≤ 9223372036854775807) ∧
          at2 d machine Q (i2_5 + 1)))
       (((-9223372036854775808 : Int) ≤ (i2_5 + 1) ∧ (i2_5 + 1) ≤ 9223372036854775807) ∧
        at2 d machine Q (i2_5 + 1)))
     (((-9223372036854775808 : Int) ≤ (i2_5 + 1) ∧ (i2_5 + 1) ≤ 9223372036854775807) ∧
      at2 d machine Q (i2_5 + 1)))
   (Q (-1)))) : at2 d machine Q i2_5 :=
  Run.fml al cuts Try.f198 sg (fun r o => Q r.1) (todoOf Try.f198 2) (envOf 47 [(1, .dat (.int .i64) .ro machine), (2, .box D.tDispatcher .ro d), (5, .dat (.int .i64) .ro i2_5)]) tOk sOk hm h (by kernel_rfl)
theorem call_ (d : D.Dispatcher) (machine : Int) (Q : Int → Prop) (h :
  at2 d machine Q 0) : call d machine Q :=
  CallsT.fml al cuts Try.f198 sg (d, machine, true) (fun r o => Q r.1) tOk sOk hm Try.func198 (by kernel_rfl) h (by kernel_rfl)

end spec_l12Running
namespace impl_Dispatcher_waiting
def T : Tab := [(56, ti56), (39, ti39), (3, ti3), (60, ti60), (25, ti25)]
theorem tOk : TabOk P T := .cons ok56 (.cons ok39 (.cons ok3 (.cons ok60 (.cons ok25 (.nil)))))
def S : SigTab := [((187, []), impl_Dispatcher_has.sg)]
theorem sOk : SigOk P S := .cons fn187 (.nil)
def al : List Nat := []
def cuts : Cuts := [(3, [(1, none), (3, some ((.sl (.int .i64)), (.own 3 .ro))), (7, none), (8, none), (9, none)])]
def at3 (d : D.Dispatcher) (Q : List (Int) → Prop) (out3_3 : List (Int)) (v93_9 : Int) : Prop := Run P Try.f199 sg (fun r o => Q r.1) (todoOf Try.f199 3) (envOf 31 [(1, .box D.tDispatcher .ro d), (3, .dat (.sl (.int .i64)) (.own 3 .ro) out3_3), (7, .dat (.sl D.tJob) .ro d.2.2.2.1), (8, .dat (.int .i64) .ro (((List.length d.2.2.2.1) : Nat) : Int)), (9, .dat (.int .i64) .ro v93_9)])
theorem at3_ (d : D.Dispatcher) (Q : List (Int) → Prop) (out3_3 : List (Int)) (v93_9 : Int) (h :
  cnd (decide (v93_9 < (((List.length d.2.2.2.1) : Nat) : Int)))
   (((0 : Int) ≤ v93_9 ∧ v93_9 < (((List.length d.2.2.2.1) : Nat) : Int)) ∧
    impl_Dispatcher_has.call d v93_9 (fun r1 =>
     cnd (!r1)
      (cnd (cond true (decide ((List.getD d.2.2.2.1 (Int.toNat v93_9) (0, (0, (0, 0)))).2.2.1 ≤ d.2.2.1)) false)
        (((List.length out3_3) + (List.length [v93_9]) ≤ 4294967296) ∧
         ((-9223372036854775808 : Int) ≤ (v93_9 + 1) ∧ (v93_9 + 1) ≤ 9223372036854775807) ∧
         at3 d Q (out3_3 ++ [v93_9]) (v93_9 + 1))
        (((-9223372036854775808 : Int) ≤ (v93_9 + 1) ∧ (v93_9 + 1) ≤ 9223372036854775807) ∧
         at3 d Q out3_3 (v93_9 + 1)))
      (((-9223372036854775808 : Int) ≤ (v93_9 + 1) ∧ (v93_9 + 1) ≤ 9223372036854775807) ∧
       at3 d Q out3_3 (v93_9 + 1))))
   (Q out3_3)) : at3 d Q out3_3 v93_9 :=
  Run.fml al cuts Try.f199 sg (fun r o => Q r.1) (todoOf Try.f199 3) (envOf 31 [(1, .box D.tDispatcher .ro d), (3, .dat (.sl (.int .i64)) (.own 3 .ro) out3_3), (7, .dat (.sl D.tJob) .ro d.2.2.2.1), (8, .dat (.int .i64) .ro (((List.length d.2.2.2.1) : Nat) : Int)), (9, .dat (.int .i64) .ro v93_9)]) tOk sOk hm h (by kernel_rfl)
theorem call_ (d : D.Dispatcher) (Q : List (Int) → Prop) (h :
  (((List.length d.2.2.2.1) ≤ 281474976710656) →
  at3 d Q ([] : List (Int)) 0)) : call d Q :=
  CallsT.fml al cuts Try.f199 sg (d, true) (fun r o => Q r.1) tOk sOk hm Try.func199 (by kernel_rfl) h (by kernel_rfl)

end impl_Dispatcher_waiting
namespace impl_Dispatcher_rule
def T : Tab := [(56, ti56), (3, ti3)]
theorem tOk : TabOk P T := .cons ok56 (.cons ok3 (.nil))
def S : SigTab := []
theorem sOk : SigOk P S := .nil
def al : List Nat := []
def cuts : Cuts := []
theorem call_ (d : D.Dispatcher) (Q : Int → Prop) (h :
  cnd (decide (d.2.1 = 2))
   (Q 2)
   (cnd (decide (d.2.1 = 3))
     (Q 3)
     (Q 4))) : call d Q :=
  CallsT.fml al cuts Try.f201 sg (d, true) (fun r o => Q r.1) tOk sOk hm Try.func201 (by kernel_rfl) h (by kernel_rfl)

end impl_Dispatcher_rule
end Go.Vm
