/- Formulas of functions. Written by a program of this work out of the evaluator Vm. No condition. -/
import Derived.Test.YthnkkchlgepdaaaDSg
import Derived.KernelRfl
namespace Go.Vm
open Go.Proofs
set_option linter.unusedVariables false
set_option maxRecDepth 100000
namespace impl_Dispatcher_own
def T : Tab := [(56, ti56), (39, ti39), (54, ti54)]
theorem tOk : TabOk P T := .cons ok56 (.cons ok39 (.cons ok54 (.nil)))
def S : SigTab := []
theorem sOk : SigOk P S := .nil
def al : List Nat := []
def cuts : Cuts := []
theorem call_ (d : D.Dispatcher) (Q : D.Dispatcher → Prop) (h :
  ((List.length ([] : List (D.Job))) + (List.length d.2.2.2.1) ≤ 4294967296) ∧
  ((List.length ([] : List (D.Task))) + (List.length d.2.2.2.2) ≤ 4294967296) ∧
  Q (d.1, (d.2.1, (d.2.2.1, ((([] : List (D.Job)) ++ d.2.2.2.1), (([] : List (D.Task)) ++ d.2.2.2.2)))))) : call d Q :=
  CallsT.fml al cuts Try.f117 sg (d, true) (fun r o => Q r.1) tOk sOk hm Try.func117 (by kernel_rfl) h (by kernel_rfl)

end impl_Dispatcher_own
namespace spec_l12Own
def T : Tab := [(56, ti56), (3, ti3), (39, ti39), (54, ti54)]
theorem tOk : TabOk P T := .cons ok56 (.cons ok3 (.cons ok39 (.cons ok54 (.nil))))
def S : SigTab := []
theorem sOk : SigOk P S := .nil
def al : List Nat := []
def cuts : Cuts := []
theorem call_ (d : D.Dispatcher) (Q : D.Dispatcher → Prop) (h :
  ((List.length ([] : List (D.Job))) + (List.length d.2.2.2.1) ≤ 4294967296) ∧
  ((List.length ([] : List (D.Task))) + (List.length d.2.2.2.2) ≤ 4294967296) ∧
  Q (d.1, (d.2.1, (d.2.2.1, ((([] : List (D.Job)) ++ d.2.2.2.1), (([] : List (D.Task)) ++ d.2.2.2.2)))))) : call d Q :=
  CallsT.fml al cuts Try.f118 sg (d, true) (fun r o => Q r.1) tOk sOk hm Try.func118 (by kernel_rfl) h (by kernel_rfl)

end spec_l12Own
namespace laws_vJobs
def T : Tab := [(39, ti39), (3, ti3), (60, ti60)]
theorem tOk : TabOk P T := .cons ok39 (.cons ok3 (.cons ok60 (.nil)))
def S : SigTab := []
theorem sOk : SigOk P S := .nil
def al : List Nat := []
def cuts : Cuts := [(4, [(0, none), (1, none), (5, none)])]
def at4 (a : List (D.Job)) (b : List (D.Job)) (Q : Bool → Prop) (i4_5 : Int) : Prop := Run P Try.f119 sg (fun r o => Q r.1) (todoOf Try.f119 4) (envOf 26 [(0, .dat (.sl D.tJob) .ro a), (1, .dat (.sl D.tJob) .ro b), (5, .dat (.int .i64) .ro i4_5)])
theorem at4_ (a : List (D.Job)) (b : List (D.Job)) (Q : Bool → Prop) (i4_5 : Int) (h :
  (((List.length a) ≤ 281474976710656) →
  cnd (decide (i4_5 < (((List.length a) : Nat) : Int)))
   (((0 : Int) ≤ i4_5 ∧ i4_5 < (((List.length a) : Nat) : Int)) ∧
    ((0 : Int) ≤ i4_5 ∧ i4_5 < (((List.length b) : Nat) : Int)) ∧
    cnd (!((decide ((List.getD a (Int.toNat i4_5) (0, (0, (0, 0)))).1 = (List.getD b (Int.toNat i4_5) (0, (0, (0, 0)))).1)) && ((decide ((List.getD a (Int.toNat i4_5) (0, (0, (0, 0)))).2.1 = (List.getD b (Int.toNat i4_5) (0, (0, (0, 0)))).2.1)) && ((decide ((List.getD a (Int.toNat i4_5) (0, (0, (0, 0)))).2.2.1 = (List.getD b (Int.toNat i4_5) (0, (0, (0, 0)))).2.2.1)) && (decide ((List.getD a (Int.toNat i4_5) (0, (0, (0, 0)))).2.2.2 = (List.getD b (Int.toNat i4_5) (0, (0, (0, 0)))).2.2.2))))))
     (Q false)
     (((-9223372036854775808 : Int) ≤ (i4_5 + 1) ∧ (i4_5 + 1) ≤ 9223372036854775807) ∧
      at4 a b Q (i4_5 + 1)))
   (Q true))) : at4 a b Q i4_5 :=
  Run.fml al cuts Try.f119 sg (fun r o => Q r.1) (todoOf Try.f119 4) (envOf 26 [(0, .dat (.sl D.tJob) .ro a), (1, .dat (.sl D.tJob) .ro b), (5, .dat (.int .i64) .ro i4_5)]) tOk sOk hm h (by kernel_rfl)
theorem call_ (a : List (D.Job)) (b : List (D.Job)) (Q : Bool → Prop) (h :
  (((List.length a) ≤ 281474976710656) →
  (((List.length b) ≤ 281474976710656) →
  cnd (decide ((((List.length a) : Nat) : Int) ≠ (((List.length b) : Nat) : Int)))
   (Q false)
   (at4 a b Q 0)))) : call a b Q :=
  CallsT.fml al cuts Try.f119 sg (a, b, true) (fun r o => Q r.1) tOk sOk hm Try.func119 (by kernel_rfl) h (by kernel_rfl)

end laws_vJobs
namespace laws_vTasks
def T : Tab := [(54, ti54), (3, ti3), (132, ti132)]
theorem tOk : TabOk P T := .cons ok54 (.cons ok3 (.cons ok132 (.nil)))
def S : SigTab := []
theorem sOk : SigOk P S := .nil
def al : List Nat := []
def cuts : Cuts := [(4, [(0, none), (1, none), (5, none)])]
def at4 (a : List (D.Task)) (b : List (D.Task)) (Q : Bool → Prop) (i4_5 : Int) : Prop := Run P Try.f120 sg (fun r o => Q r.1) (todoOf Try.f120 4) (envOf 26 [(0, .dat (.sl D.tTask) .ro a), (1, .dat (.sl D.tTask) .ro b), (5, .dat (.int .i64) .ro i4_5)])
theorem at4_ (a : List (D.Task)) (b : List (D.Task)) (Q : Bool → Prop) (i4_5 : Int) (h :
  (((List.length a) ≤ 281474976710656) →
  cnd (decide (i4_5 < (((List.length a) : Nat) : Int)))
   (((0 : Int) ≤ i4_5 ∧ i4_5 < (((List.length a) : Nat) : Int)) ∧
    ((0 : Int) ≤ i4_5 ∧ i4_5 < (((List.length b) : Nat) : Int)) ∧
    cnd (!((decide ((List.getD a (Int.toNat i4_5) (0, (0, 0))).1 = (List.getD b (Int.toNat i4_5) (0, (0, 0))).1)) && ((decide ((List.getD a (Int.toNat i4_5) (0, (0, 0))).2.1 = (List.getD b (Int.toNat i4_5) (0, (0, 0))).2.1)) && (decide ((List.getD a (Int.toNat i4_5) (0, (0, 0))).2.2 = (List.getD b (Int.toNat i4_5) (0, (0, 0))).2.2)))))
     (Q false)
     (((-9223372036854775808 : Int) ≤ (i4_5 + 1) ∧ (i4_5 + 1) ≤ 9223372036854775807) ∧
      at4 a b Q (i4_5 + 1)))
   (Q true))) : at4 a b Q i4_5 :=
  Run.fml al cuts Try.f120 sg (fun r o => Q r.1) (todoOf Try.f120 4) (envOf 26 [(0, .dat (.sl D.tTask) .ro a), (1, .dat (.sl D.tTask) .ro b), (5, .dat (.int .i64) .ro i4_5)]) tOk sOk hm h (by kernel_rfl)
theorem call_ (a : List (D.Task)) (b : List (D.Task)) (Q : Bool → Prop) (h :
  (((List.length a) ≤ 281474976710656) →
  (((List.length b) ≤ 281474976710656) →
  cnd (decide ((((List.length a) : Nat) : Int) ≠ (((List.length b) : Nat) : Int)))
   (Q false)
   (at4 a b Q 0)))) : call a b Q :=
  CallsT.fml al cuts Try.f120 sg (a, b, true) (fun r o => Q r.1) tOk sOk hm Try.func120 (by kernel_rfl) h (by kernel_rfl)

end laws_vTasks
namespace impl_within
def T : Tab := [(3, ti3)]
theorem tOk : TabOk P T := .cons ok3 (.nil)
def S : SigTab := []
theorem sOk : SigOk P S := .nil
def al : List Nat := []
def cuts : Cuts := []
theorem call_ (n : Int) (low : Int) (high : Int) (Q : Bool → Prop) (h :
  cnd (decide (low ≤ n))
   (Q (cond true (decide (n ≤ high)) false))
   (Q false)) : call n low high Q :=
  CallsT.fml al cuts Try.f82 sg (n, low, high, true) (fun r o => Q r.1) tOk sOk hm Try.func82 (by kernel_rfl) h (by kernel_rfl)

end impl_within
namespace impl_IsJobs
def T : Tab := [(39, ti39), (3, ti3), (60, ti60)]
theorem tOk : TabOk P T := .cons ok39 (.cons ok3 (.cons ok60 (.nil)))
def S : SigTab := [((82, []), impl_within.sg), ((151, []), impl_isDate.sg)]
theorem sOk : SigOk P S := .cons fn82 (.cons fn151 (.nil))
def al : List Nat := []
def cuts : Cuts := [(4, [(8, none), (9, none), (10, none)])]
def at4 (jobs : List (D.Job)) (Q : Bool → Prop) (v104_10 : Int) : Prop := Run P Try.f83 sg (fun r o => Q r.1) (todoOf Try.f83 4) (envOf 37 [(8, .dat (.sl D.tJob) .ro jobs), (9, .dat (.int .i64) .ro (((List.length jobs) : Nat) : Int)), (10, .dat (.int .i64) .ro v104_10)])
theorem at4_ (jobs : List (D.Job)) (Q : Bool → Prop) (v104_10 : Int) (h :
  cnd (decide (v104_10 < (((List.length jobs) : Nat) : Int)))
   (((0 : Int) ≤ v104_10 ∧ v104_10 < (((List.length jobs) : Nat) : Int)) ∧
    impl_within.call (List.getD jobs (Int.toNat v104_10) (0, (0, (0, 0)))).1 1 50 (fun r1 =>
     cnd (!r1)
      (Q false)
      (impl_within.call (List.getD jobs (Int.toNat v104_10) (0, (0, (0, 0)))).2.1 0 50 (fun r2 =>
        cnd (cond false true (!r2))
         (Q false)
         (impl_isDate.call (List.getD jobs (Int.toNat v104_10) (0, (0, (0, 0)))).2.2.1 (fun r3 =>
           cnd (cond false true (!r3))
            (Q false)
            (impl_isDate.call (List.getD jobs (Int.toNat v104_10) (0, (0, (0, 0)))).2.2.2 (fun r4 =>
              cnd (cond false true (!r4))
               (Q false)
               (((-9223372036854775808 : Int) ≤ (v104_10 + 1) ∧ (v104_10 + 1) ≤ 9223372036854775807) ∧
                at4 jobs Q (v104_10 + 1))))))))))
   (Q true)) : at4 jobs Q v104_10 :=
  Run.fml al cuts Try.f83 sg (fun r o => Q r.1) (todoOf Try.f83 4) (envOf 37 [(8, .dat (.sl D.tJob) .ro jobs), (9, .dat (.int .i64) .ro (((List.length jobs) : Nat) : Int)), (10, .dat (.int .i64) .ro v104_10)]) tOk sOk hm h (by kernel_rfl)
theorem call_ (jobs : List (D.Job)) (Q : Bool → Prop) (h :
  (((List.length jobs) ≤ 281474976710656) →
  cnd (decide (8 < (((List.length jobs) : Nat) : Int)))
   (Q false)
   ((((List.length jobs) ≤ 281474976710656) →
    at4 jobs Q 0)))) : call jobs Q :=
  CallsT.fml al cuts Try.f83 sg (jobs, true) (fun r o => Q r.1) tOk sOk hm Try.func83 (by kernel_rfl) h (by kernel_rfl)

end impl_IsJobs
namespace impl_isNumber
def T : Tab := [(3, ti3)]
theorem tOk : TabOk P T := .cons ok3 (.nil)
def S : SigTab := [((82, []), impl_within.sg)]
theorem sOk : SigOk P S := .cons fn82 (.nil)
def al : List Nat := []
def cuts : Cuts := []
theorem call_ (i : Int) (n : Int) (Q : Bool → Prop) (h :
  ((-9223372036854775808 : Int) ≤ (n - 1) ∧ (n - 1) ≤ 9223372036854775807) ∧
  impl_within.call i 0 (n - 1) (fun r1 =>
   Q r1)) : call i n Q :=
  CallsT.fml al cuts Try.f121 sg (i, n, true) (fun r o => Q r.1) tOk sOk hm Try.func121 (by kernel_rfl) h (by kernel_rfl)

end impl_isNumber
namespace impl_Dispatcher_endOf
def T : Tab := [(56, ti56), (132, ti132), (3, ti3), (39, ti39), (60, ti60)]
theorem tOk : TabOk P T := .cons ok56 (.cons ok132 (.cons ok3 (.cons ok39 (.cons ok60 (.nil)))))
def S : SigTab := []
theorem sOk : SigOk P S := .nil
def al : List Nat := []
def cuts : Cuts := []
theorem call_ (d : D.Dispatcher) (t : D.Task) (Q : Int → Prop) (h :
  ((0 : Int) ≤ t.1 ∧ t.1 < (((List.length d.2.2.2.1) : Nat) : Int)) ∧
  ((-9223372036854775808 : Int) ≤ (t.2.2 + (List.getD d.2.2.2.1 (Int.toNat t.1) (0, (0, (0, 0)))).1) ∧ (t.2.2 + (List.getD d.2.2.2.1 (Int.toNat t.1) (0, (0, (0, 0)))).1) ≤ 9223372036854775807) ∧
  Q (t.2.2 + (List.getD d.2.2.2.1 (Int.toNat t.1) (0, (0, (0, 0)))).1)) : call d t Q :=
  CallsT.fml al cuts Try.f122 sg (d, t, true) (fun r o => Q r.1) tOk sOk hm Try.func122 (by kernel_rfl) h (by kernel_rfl)

end impl_Dispatcher_endOf
end Go.Vm
