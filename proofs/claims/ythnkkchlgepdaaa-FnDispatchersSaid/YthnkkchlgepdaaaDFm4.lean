/- Formulas of functions. Written by a program of this work out of the evaluator Vm. No condition. -/
import Derived.Test.YthnkkchlgepdaaaDSg
import Derived.KernelRfl
namespace Go.Vm
open Go.Proofs
set_option linter.unusedVariables false
set_option maxRecDepth 100000
namespace spec_l1Cur_next
def T : Tab := [(106, ti106), (3, ti3), (22, ti22), (5, ti5), (104, ti104)]
theorem tOk : TabOk P T := .cons ok106 (.cons ok3 (.cons ok22 (.cons ok5 (.cons ok104 (.nil)))))
def S : SigTab := []
theorem sOk : SigOk P S := .nil
def al : List Nat := []
def cuts : Cuts := []
theorem call_ (c : D.L2Search) (Q : Int → D.L2Search → Prop) (h :
  (((List.length c.1) ≤ 281474976710656) →
  cnd (decide (c.2.1 < (((List.length c.1) : Nat) : Int)))
   (((0 : Int) ≤ c.2.1 ∧ c.2.1 < (((List.length c.1) : Nat) : Int)) ∧
    (((0 : Int) ≤ (List.getD c.1 (Int.toNat c.2.1) 0) ∧ (List.getD c.1 (Int.toNat c.2.1) 0) ≤ 255) →
    ((-9223372036854775808 : Int) ≤ (c.2.1 + 1) ∧ (c.2.1 + 1) ≤ 9223372036854775807) ∧
    (((List.length c.1) ≤ 281474976710656) →
    cnd (decide ((c.2.1 + 1) ≤ (((List.length c.1) : Nat) : Int)))
     (Q (List.getD c.1 (Int.toNat c.2.1) 0) (c.1, ((c.2.1 + 1), (IntKind.wrap .u64 ((IntKind.wrap .u64 ((IntKind.wrap .u64 (c.2.2 * 6364136223846793005)) + (IntKind.wrap .u64 (List.getD c.1 (Int.toNat c.2.1) 0)))) + 462197)))))
     (((0 : Int) ≤ 40) ∧
      Q (IntKind.wrap .i64 (IntKind.wrap .u64 ((BitVec.ofInt (IntKind.bits .u64) (Int.fdiv (IntKind.wrap .u64 ((IntKind.wrap .u64 ((IntKind.wrap .u64 (c.2.2 * 6364136223846793005)) + (IntKind.wrap .u64 (List.getD c.1 (Int.toNat c.2.1) 0)))) + 462197)) (2 ^ (min (Int.toNat 40) (IntKind.bits .u64)))) &&& BitVec.ofInt (IntKind.bits .u64) 255).toNat : Int))) (c.1, ((c.2.1 + 1), (IntKind.wrap .u64 ((IntKind.wrap .u64 ((IntKind.wrap .u64 (c.2.2 * 6364136223846793005)) + (IntKind.wrap .u64 (List.getD c.1 (Int.toNat c.2.1) 0)))) + 462197))))))))
   (((-9223372036854775808 : Int) ≤ (c.2.1 + 1) ∧ (c.2.1 + 1) ≤ 9223372036854775807) ∧
    (((List.length c.1) ≤ 281474976710656) →
    cnd (decide ((c.2.1 + 1) ≤ (((List.length c.1) : Nat) : Int)))
     (Q 0 (c.1, ((c.2.1 + 1), (IntKind.wrap .u64 ((IntKind.wrap .u64 ((IntKind.wrap .u64 (c.2.2 * 6364136223846793005)) + (IntKind.wrap .u64 0))) + 462197)))))
     (((0 : Int) ≤ 40) ∧
      Q (IntKind.wrap .i64 (IntKind.wrap .u64 ((BitVec.ofInt (IntKind.bits .u64) (Int.fdiv (IntKind.wrap .u64 ((IntKind.wrap .u64 ((IntKind.wrap .u64 (c.2.2 * 6364136223846793005)) + (IntKind.wrap .u64 0))) + 462197)) (2 ^ (min (Int.toNat 40) (IntKind.bits .u64)))) &&& BitVec.ofInt (IntKind.bits .u64) 255).toNat : Int))) (c.1, ((c.2.1 + 1), (IntKind.wrap .u64 ((IntKind.wrap .u64 ((IntKind.wrap .u64 (c.2.2 * 6364136223846793005)) + (IntKind.wrap .u64 0))) + 462197))))))))) : call c Q :=
  CallsT.fml al cuts Try.f156 sg (c, true) (fun r o => Q r.1 o.1) tOk sOk hm Try.func156 (by kernel_rfl) h (by kernel_rfl)

end spec_l1Cur_next
namespace spec_l1Cur_next_o
def T : Tab := [(106, ti106), (3, ti3), (22, ti22), (5, ti5), (104, ti104)]
theorem tOk : TabOk P T := .cons ok106 (.cons ok3 (.cons ok22 (.cons ok5 (.cons ok104 (.nil)))))
def S : SigTab := []
theorem sOk : SigOk P S := .nil
def al : List Nat := []
def cuts : Cuts := []
theorem call_ (c : D.L2Search) (Q : Int → D.L2Search → Prop) (h :
  (((List.length c.1) ≤ 281474976710656) →
  cnd (decide (c.2.1 < (((List.length c.1) : Nat) : Int)))
   (((0 : Int) ≤ c.2.1 ∧ c.2.1 < (((List.length c.1) : Nat) : Int)) ∧
    (((0 : Int) ≤ (List.getD c.1 (0 + (Int.toNat c.2.1)) 0) ∧ (List.getD c.1 (0 + (Int.toNat c.2.1)) 0) ≤ 255) →
    ((-9223372036854775808 : Int) ≤ (c.2.1 + 1) ∧ (c.2.1 + 1) ≤ 9223372036854775807) ∧
    (((List.length c.1) ≤ 281474976710656) →
    cnd (decide ((c.2.1 + 1) ≤ (((List.length c.1) : Nat) : Int)))
     (Q (List.getD c.1 (0 + (Int.toNat c.2.1)) 0) (c.1, ((c.2.1 + 1), (IntKind.wrap .u64 ((IntKind.wrap .u64 ((IntKind.wrap .u64 (c.2.2 * 6364136223846793005)) + (IntKind.wrap .u64 (List.getD c.1 (0 + (Int.toNat c.2.1)) 0)))) + 462197)))))
     (((0 : Int) ≤ 40) ∧
      Q (IntKind.wrap .i64 (IntKind.wrap .u64 ((BitVec.ofInt (IntKind.bits .u64) (Int.fdiv (IntKind.wrap .u64 ((IntKind.wrap .u64 ((IntKind.wrap .u64 (c.2.2 * 6364136223846793005)) + (IntKind.wrap .u64 (List.getD c.1 (0 + (Int.toNat c.2.1)) 0)))) + 462197)) (2 ^ (min (Int.toNat 40) (IntKind.bits .u64)))) &&& BitVec.ofInt (IntKind.bits .u64) 255).toNat : Int))) (c.1, ((c.2.1 + 1), (IntKind.wrap .u64 ((IntKind.wrap .u64 ((IntKind.wrap .u64 (c.2.2 * 6364136223846793005)) + (IntKind.wrap .u64 (List.getD c.1 (0 + (Int.toNat c.2.1)) 0)))) + 462197))))))))
   (((-9223372036854775808 : Int) ≤ (c.2.1 + 1) ∧ (c.2.1 + 1) ≤ 9223372036854775807) ∧
    (((List.length c.1) ≤ 281474976710656) →
    cnd (decide ((c.2.1 + 1) ≤ (((List.length c.1) : Nat) : Int)))
     (Q 0 (c.1, ((c.2.1 + 1), (IntKind.wrap .u64 ((IntKind.wrap .u64 ((IntKind.wrap .u64 (c.2.2 * 6364136223846793005)) + (IntKind.wrap .u64 0))) + 462197)))))
     (((0 : Int) ≤ 40) ∧
      Q (IntKind.wrap .i64 (IntKind.wrap .u64 ((BitVec.ofInt (IntKind.bits .u64) (Int.fdiv (IntKind.wrap .u64 ((IntKind.wrap .u64 ((IntKind.wrap .u64 (c.2.2 * 6364136223846793005)) + (IntKind.wrap .u64 0))) + 462197)) (2 ^ (min (Int.toNat 40) (IntKind.bits .u64)))) &&& BitVec.ofInt (IntKind.bits .u64) 255).toNat : Int))) (c.1, ((c.2.1 + 1), (IntKind.wrap .u64 ((IntKind.wrap .u64 ((IntKind.wrap .u64 (c.2.2 * 6364136223846793005)) + (IntKind.wrap .u64 0))) + 462197))))))))) : call c Q :=
  CallsT.fml al cuts Try.f156 sg (c, true) (fun r o => Q r.1 o.1) tOk sOk hm Try.func156 (by kernel_rfl) h (by kernel_rfl)

end spec_l1Cur_next_o
namespace spec_l1In
def T : Tab := [(3, ti3)]
theorem tOk : TabOk P T := .cons ok3 (.nil)
def S : SigTab := []
theorem sOk : SigOk P S := .nil
def al : List Nat := []
def cuts : Cuts := []
theorem call_ (x : Int) (a : Int) (b : Int) (Q : Bool → Prop) (h :
  cnd (decide (a ≤ x))
   (Q (cond true (decide (x ≤ b)) false))
   (Q false)) : call x a b Q :=
  CallsT.fml al cuts Try.f95 sg (x, a, b, true) (fun r o => Q r.1) tOk sOk hm Try.func95 (by kernel_rfl) h (by kernel_rfl)

end spec_l1In
namespace spec_l2Good
def T : Tab := [(39, ti39), (3, ti3), (60, ti60)]
theorem tOk : TabOk P T := .cons ok39 (.cons ok3 (.cons ok60 (.nil)))
def S : SigTab := [((162, []), spec_l2Job.sg)]
theorem sOk : SigOk P S := .cons fn162 (.nil)
def al : List Nat := []
def cuts : Cuts := [(2, [(0, none), (3, none)])]
def at2 (jobs : List (D.Job)) (Q : Bool → Prop) (i2_3 : Int) : Prop := Run P Try.f102 sg (fun r o => Q r.1) (todoOf Try.f102 2) (envOf 19 [(0, .dat (.sl D.tJob) .ro jobs), (3, .dat (.int .i64) .ro i2_3)])
theorem at2_ (jobs : List (D.Job)) (Q : Bool → Prop) (i2_3 : Int) (h :
  (((List.length jobs) ≤ 281474976710656) →
  cnd (decide (i2_3 < (((List.length jobs) : Nat) : Int)))
   (((0 : Int) ≤ i2_3 ∧ i2_3 < (((List.length jobs) : Nat) : Int)) ∧
    spec_l2Job.call (List.getD jobs (Int.toNat i2_3) (0, (0, (0, 0)))) (fun r1 =>
     cnd (!r1)
      (Q false)
      (((-9223372036854775808 : Int) ≤ (i2_3 + 1) ∧ (i2_3 + 1) ≤ 9223372036854775807) ∧
       at2 jobs Q (i2_3 + 1))))
   ((((List.length jobs) ≤ 281474976710656) →
    Q (decide ((((List.length jobs) : Nat) : Int) ≤ 8)))))) : at2 jobs Q i2_3 :=
  Run.fml al cuts Try.f102 sg (fun r o => Q r.1) (todoOf Try.f102 2) (envOf 19 [(0, .dat (.sl D.tJob) .ro jobs), (3, .dat (.int .i64) .ro i2_3)]) tOk sOk hm h (by kernel_rfl)
theorem call_ (jobs : List (D.Job)) (Q : Bool → Prop) (h :
  at2 jobs Q 0) : call jobs Q :=
  CallsT.fml al cuts Try.f102 sg (jobs, true) (fun r o => Q r.1) tOk sOk hm Try.func102 (by kernel_rfl) h (by kernel_rfl)

end spec_l2Good
namespace spec_l12Tasks
def T : Tab := [(56, ti56), (54, ti54), (3, ti3), (132, ti132), (39, ti39), (60, ti60)]
theorem tOk : TabOk P T := .cons ok56 (.cons ok54 (.cons ok3 (.cons ok132 (.cons ok39 (.cons ok60 (.nil))))))
def S : SigTab := [((176, []), spec_l3Job.sg), ((95, []), spec_l1In.sg)]
theorem sOk : SigOk P S := .cons fn176 (.cons fn95 (.nil))
def al : List Nat := []
def cuts : Cuts := [(2, [(1, none), (3, none)]), (8, [(1, none), (3, none), (4, none), (5, none)])]
def at2 (d : D.Dispatcher) (Q : Bool → Prop) (i2_3 : Int) : Prop := Run P Try.f166 sg (fun r o => Q r.1) (todoOf Try.f166 2) (envOf 128 [(1, .box D.tDispatcher .ro d), (3, .dat (.int .i64) .ro i2_3)])
def at8 (d : D.Dispatcher) (Q : Bool → Prop) (i8_3 : Int) (x8_4 : D.Task) (k8_5 : Int) : Prop := Run P Try.f166 sg (fun r o => Q r.1) (todoOf Try.f166 8) (envOf 128 [(1, .box D.tDispatcher .ro d), (3, .dat (.int .i64) .ro i8_3), (4, .box D.tTask .ro x8_4), (5, .dat (.int .i64) .ro k8_5)])
theorem at2_ (d : D.Dispatcher) (Q : Bool → Prop) (i2_3 : Int) (h :
  (((List.length d.2.2.2.2) ≤ 281474976710656) →
  cnd (decide (i2_3 < (((List.length d.2.2.2.2) : Nat) : Int)))
   (((0 : Int) ≤ i2_3 ∧ i2_3 < (((List.length d.2.2.2.2) : Nat) : Int)) ∧
    spec_l3Job.call d.2.2.2.1 (List.getD d.2.2.2.2 (Int.toNat i2_3) (0, (0, 0))).1 (fun r1 =>
     cnd (!r1)
      (Q false)
      (((-9223372036854775808 : Int) ≤ (d.1 - 1) ∧ (d.1 - 1) ≤ 9223372036854775807) ∧
       spec_l1In.call (List.getD d.2.2.2.2 (Int.toNat i2_3) (0, (0, 0))).2.1 0 (d.1 - 1) (fun r2 =>
        cnd (cond false true (!r2))
         (Q false)
         (cnd (cond false true (decide (d.2.2.1 ≤ (List.getD d.2.2.2.2 (Int.toNat i2_3) (0, (0, 0))).2.2)))
           (Q false)
           (((0 : Int) ≤ (List.getD d.2.2.2.2 (Int.toNat i2_3) (0, (0, 0))).1 ∧ (List.getD d.2.2.2.2 (Int.toNat i2_3) (0, (0, 0))).1 < (((List.length d.2.2.2.1) : Nat) : Int)) ∧
            cnd (cond false true (decide ((List.getD d.2.2.2.2 (Int.toNat i2_3) (0, (0, 0))).2.2 < (List.getD d.2.2.2.1 (Int.toNat (List.getD d.2.2.2.2 (Int.toNat i2_3) (0, (0, 0))).1) (0, (0, (0, 0)))).2.2.1)))
             (Q false)
             (at8 d Q i2_3 (List.getD d.2.2.2.2 (Int.toNat i2_3) (0, (0, 0))) 0)))))))
   (Q true))) : at2 d Q i2_3 :=
  Run.fml al cuts Try.f166 sg (fun r o => Q r.1) (todoOf Try.f166 2) (envOf 128 [(1, .box D.tDispatcher .ro d), (3, .dat (.int .i64) .ro i2_3)]) tOk sOk hm h (by kernel_rfl)
theorem at8_ (d : D.Dispatcher) (Q : Bool → Prop) (i8_3 : Int) (x8_4 : D.Task) (k8_5 : Int) (h :
  cnd (decide (k8_5 < i8_3))
   (((0 : Int) ≤ k8_5 ∧ k8_5 < (((List.length d.2.2.2.2) : Nat) : Int)) ∧
    cnd (decide ((List.getD d.2.2.2.2 (Int.toNat k8_5) (0, (0, 0))).1 = x8_4.1))
     (Q false)
     (cnd (decide ((List.getD d.2.2.2.2 (Int.toNat k8_5) (0, (0, 0))).2.1 = x8_4.2.1))
       (((0 : Int) ≤ (List.getD d.2.2.2.2 (Int.toNat k8_5) (0, (0, 0))).1 ∧ (List.getD d.2.2.2.2 (Int.toNat k8_5) (0, (0, 0))).1 < (((List.length d.2.2.2.1) : Nat) : Int)) ∧
        ((-9223372036854775808 : Int) ≤ ((List.getD d.2.2.2.2 (Int.toNat k8_5) (0, (0, 0))).2.2 + (List.getD d.2.2.2.1 (Int.toNat (List.getD d.2.2.2.2 (Int.toNat k8_5) (0, (0, 0))).1) (0, (0, (0, 0)))).1) ∧ ((List.getD d.2.2.2.2 (Int.toNat k8_5) (0, (0, 0))).2.2 + (List.getD d.2.2.2.1 (Int.toNat (List.getD d.2.2.2.2 (Int.toNat k8_5) (0, (0, 0))).1) (0, (0, (0, 0)))).1) ≤ 9223372036854775807) ∧
        cnd (cond false true (cond true (decide (x8_4.2.2 < ((List.getD d.2.2.2.2 (Int.toNat k8_5) (0, (0, 0))).2.2 + (List.getD d.2.2.2.1 (Int.toNat (List.getD d.2.2.2.2 (Int.toNat k8_5) (0, (0, 0))).1) (0, (0, (0, 0)))).1))) false))
         (Q false)
         (((-9223372036854775808 : Int) ≤ (k8_5 + 1) ∧ (k8_5 + 1) ≤ 9223372036854775807) ∧
          at8 d Q i8_3 x8_4 (k8_5 + 1)))
       (cnd (cond false true false)
         (Q false)
         (((-9223372036854775808 : Int) ≤ (k8_5 + 1) ∧ (k8_5 + 1) ≤ 9223372036854775807) ∧
          at8 d Q i8_3 x8_4 (k8_5 + 1)))))
   (cnd (decide (0 < i8_3))
     (((-9223372036854775808 : Int) ≤ (i8_3 - 1) ∧ (i8_3 - 1) ≤ 9223372036854775807) ∧
      ((0 : Int) ≤ (i8_3 - 1) ∧ (i8_3 - 1) < (((List.length d.2.2.2.2) : Nat) : Int)) ∧
      cnd (decide (x8_4.2.2 < (List.getD d.2.2.2.2 (Int.toNat (i8_3 - 1)) (0, (0, 0))).2.2))
       (cnd (cond true true false)
         (Q false)
         (((-9223372036854775808 : Int) ≤ (i8_3 + 1) ∧ (i8_3 + 1) ≤ 9223372036854775807) ∧
          at2 d Q (i8_3 + 1)))
       (((-9223372036854775808 : Int) ≤ (i8_3 - 1) ∧ (i8_3 - 1) ≤ 9223372036854775807) ∧
        ((0 : Int) ≤ (i8_3 - 1) ∧ (i8_3 - 1) < (((List.length d.2.2.2.2) : Nat) : Int)) ∧
        cnd (decide ((List.getD d.2.2.2.2 (Int.toNat (i8_3 - 1)) (0, (0, 0))).2.2 = x8_4.2.2))
         (((-9223372036854775808 : Int) ≤ (i8_3 - 1) ∧ (i8_3 - 1) ≤ 9223372036854775807) ∧
          ((0 : Int) ≤ (i8_3 - 1) ∧ (i8_3 - 1) < (((List.length d.2.2.2.2) : Nat) : Int)) ∧
          cnd (cond true (cond false true (cond true (decide (x8_4.2.1 ≤ (List.getD d.2.2.2.2 (Int.toNat (i8_3 - 1)) (0, (0, 0))).2.1)) false)) false)
           (Q false)
           (((-9223372036854775808 : Int) ≤ (i8_3 + 1) ∧ (i8_3 + 1) ≤ 9223372036854775807) ∧
            at2 d Q (i8_3 + 1)))
         (cnd (cond true (cond false true false) false)
           (Q false)
           (((-9223372036854775808 : Int) ≤ (i8_3 + 1) ∧ (i8_3 + 1) ≤ 9223372036854775807) ∧
            at2 d Q (i8_3 + 1)))))
     (((-9223372036854775808 : Int) ≤ (i8_3 + 1) ∧ (i8_3 + 1) ≤ 9223372036854775807) ∧
      at2 d Q (i8_3 + 1)))) : at8 d Q i8_3 x8_4 k8_5 :=
  Run.fml al cuts Try.f166 sg (fun r o => Q r.1) (todoOf Try.f166 8) (envOf 128 [(1, .box D.tDispatcher .ro d), (3, .dat (.int .i64) .ro i8_3), (4, .box D.tTask .ro x8_4), (5, .dat (.int .i64) .ro k8_5)]) tOk sOk hm h (by kernel_rfl)
theorem call_ (d : D.Dispatcher) (Q : Bool → Prop) (h :
  at2 d Q 0) : call d Q :=
  CallsT.fml al cuts Try.f166 sg (d, true) (fun r o => Q r.1) tOk sOk hm Try.func166 (by kernel_rfl) h (by kernel_rfl)

end spec_l12Tasks
namespace spec_l1Cur_among
def T : Tab := [(25, ti25), (3, ti3)]
theorem tOk : TabOk P T := .cons ok25 (.cons ok3 (.nil))
def S : SigTab := [((91, []), spec_l1Cur_pick.sg), ((91, [1000000]), spec_l1Cur_pick_o.sg)]
theorem sOk : SigOk P S := .cons fn91 (.cons fn91 (.nil))
def al : List Nat := []
def cuts : Cuts := []
theorem call_ (c : D.L2Search) (list : List (Int)) (Q : Int → D.L2Search → Prop) (h :
  (((List.length list) ≤ 281474976710656) →
  spec_l1Cur_pick.call c (((List.length list) : Nat) : Int) (fun r1 o2 =>
   ((0 : Int) ≤ r1 ∧ r1 < (((List.length list) : Nat) : Int)) ∧
   Q (List.getD list (Int.toNat r1) 0) o2))) : call c list Q :=
  CallsT.fml al cuts Try.f87 sg (c, list, true) (fun r o => Q r.1 o.1) tOk sOk hm Try.func87 (by kernel_rfl) h (by kernel_rfl)

end spec_l1Cur_among
namespace spec_l1Cur_among_o
def T : Tab := [(25, ti25), (3, ti3)]
theorem tOk : TabOk P T := .cons ok25 (.cons ok3 (.nil))
def S : SigTab := [((91, []), spec_l1Cur_pick.sg), ((91, [1000000]), spec_l1Cur_pick_o.sg)]
theorem sOk : SigOk P S := .cons fn91 (.cons fn91 (.nil))
def al : List Nat := []
def cuts : Cuts := []
theorem call_ (c : D.L2Search) (list : List (Int)) (Q : Int → D.L2Search → Prop) (h :
  (((List.length list) ≤ 281474976710656) →
  spec_l1Cur_pick_o.call c (((List.length list) : Nat) : Int) (fun r1 o2 =>
   ((0 : Int) ≤ r1 ∧ r1 < (((List.length list) : Nat) : Int)) ∧
   Q (List.getD list (Int.toNat r1) 0) o2))) : call c list Q :=
  CallsT.fml al cuts Try.f87 sg (c, list, true) (fun r o => Q r.1 o.1) tOk sOk hm Try.func87 (by kernel_rfl) h (by kernel_rfl)

end spec_l1Cur_among_o
namespace spec_l1Most
def T : Tab := [(3, ti3)]
theorem tOk : TabOk P T := .cons ok3 (.nil)
def S : SigTab := []
theorem sOk : SigOk P S := .nil
def al : List Nat := []
def cuts : Cuts := []
theorem call_ (a : Int) (b : Int) (Q : Int → Prop) (h :
  cnd (decide (b < a))
   (Q a)
   (Q b)) : call a b Q :=
  CallsT.fml al cuts Try.f167 sg (a, b, true) (fun r o => Q r.1) tOk sOk hm Try.func167 (by kernel_rfl) h (by kernel_rfl)

end spec_l1Most
end Go.Vm
