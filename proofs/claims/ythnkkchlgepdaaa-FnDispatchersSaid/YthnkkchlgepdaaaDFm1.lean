/- Formulas of functions. Written by a program of this work out of the evaluator Vm. No condition. -/
import Derived.Test.YthnkkchlgepdaaaDSg
import Derived.KernelRfl
namespace Go.Vm
open Go.Proofs
set_option linter.unusedVariables false
set_option maxRecDepth 100000
namespace spec_ActDispatcher
def T : Tab := [(56, ti56), (62, ti62)]
theorem tOk : TabOk P T := .cons ok56 (.cons ok62 (.nil))
def S : SigTab := [((112, []), spec_l12Good.sg), ((116, []), spec_l12Act.sg)]
theorem sOk : SigOk P S := .cons fn112 (.cons fn116 (.nil))
def al : List Nat := []
def cuts : Cuts := []
theorem call_ (d : D.Dispatcher) (a : D.Act) (Q : D.Dispatcher → Bool → Prop) (h :
  spec_l12Good.call d (fun r1 =>
   cnd (!r1)
    (Q (0, (0, (0, (([] : List (D.Job)), ([] : List (D.Task)))))) false)
    (spec_l12Act.call d a (fun r2 r3 =>
      Q r2 r3)))) : call d a Q :=
  CallsT.fml al cuts Try.f42 sg (d, a, true) (fun r o => Q r.1 r.2.1) tOk sOk hm Try.func42 (by kernel_rfl) h (by kernel_rfl)

end spec_ActDispatcher
namespace spec_DrawPlayActs
def T : Tab := [(56, ti56), (106, ti106), (67, ti67), (3, ti3)]
theorem tOk : TabOk P T := .cons ok56 (.cons ok106 (.cons ok67 (.cons ok3 (.nil))))
def S : SigTab := [((113, []), spec_l1Cur_dispatcher.sg), ((113, [1000000]), spec_l1Cur_dispatcher_o.sg), ((91, []), spec_l1Cur_pick.sg), ((91, [1000000]), spec_l1Cur_pick_o.sg), ((114, []), spec_l1Cur_act12.sg), ((114, [1000000]), spec_l1Cur_act12_o.sg)]
theorem sOk : SigOk P S := .cons fn113 (.cons fn113 (.cons fn91 (.cons fn91 (.cons fn114 (.cons fn114 (.nil))))))
def al : List Nat := []
def cuts : Cuts := [(5, [(2, none), (4, none), (5, none), (6, none), (7, none), (10, none)])]
def at5 (code : List (Int)) (Q : D.Dispatcher → List (D.Act) → Prop) (d5_5 : D.Dispatcher) (list5_6 : List (D.Act)) (k5_7 : Int) (v105_10 : D.L2Search) : Prop := Run P Try.f43 sg (fun r o => Q r.1 r.2.1) (todoOf Try.f43 5) (envOf 28 [(2, .box D.tDispatcher (.pair .ro (.pair .ro (.pair .ro (.pair (.own 60 .ro) (.own 132 .ro))))) (0, (0, (0, (([] : List (D.Job)), ([] : List (D.Task))))))), (4, .ptr ⟨10, 0, [], 0⟩), (5, .box D.tDispatcher (.pair .ro (.pair .ro (.pair .ro (.pair (.own 60 .ro) (.own 132 .ro))))) d5_5), (6, .dat (.sl D.tAct) (.own 62 .ro) list5_6), (7, .dat (.int .i64) .ro k5_7), (10, .box D.tL1Cur (.pair (.own 5 .ro) .ro) v105_10)])
theorem at5_ (code : List (Int)) (Q : D.Dispatcher → List (D.Act) → Prop) (d5_5 : D.Dispatcher) (list5_6 : List (D.Act)) (k5_7 : Int) (v105_10 : D.L2Search) (h :
  cnd (decide (0 < k5_7))
   (spec_l1Cur_act12_o.call v105_10 d5_5 (fun r1 o2 =>
     ((List.length list5_6) + (List.length [r1]) ≤ 4294967296) ∧
     ((-9223372036854775808 : Int) ≤ (k5_7 - 1) ∧ (k5_7 - 1) ≤ 9223372036854775807) ∧
     at5 code Q d5_5 (list5_6 ++ [r1]) (k5_7 - 1) o2))
   (Q d5_5 list5_6)) : at5 code Q d5_5 list5_6 k5_7 v105_10 :=
  Run.fml al cuts Try.f43 sg (fun r o => Q r.1 r.2.1) (todoOf Try.f43 5) (envOf 28 [(2, .box D.tDispatcher (.pair .ro (.pair .ro (.pair .ro (.pair (.own 60 .ro) (.own 132 .ro))))) (0, (0, (0, (([] : List (D.Job)), ([] : List (D.Task))))))), (4, .ptr ⟨10, 0, [], 0⟩), (5, .box D.tDispatcher (.pair .ro (.pair .ro (.pair .ro (.pair (.own 60 .ro) (.own 132 .ro))))) d5_5), (6, .dat (.sl D.tAct) (.own 62 .ro) list5_6), (7, .dat (.int .i64) .ro k5_7), (10, .box D.tL1Cur (.pair (.own 5 .ro) .ro) v105_10)]) tOk sOk hm h (by kernel_rfl)
theorem call_ (code : List (Int)) (Q : D.Dispatcher → List (D.Act) → Prop) (h :
  spec_l1Cur_dispatcher_o.call (code, (0, 0)) (fun r1 o2 =>
   spec_l1Cur_pick_o.call o2 6 (fun r3 o4 =>
    at5 code Q r1 ([] : List (D.Act)) r3 o4))) : call code Q :=
  CallsT.fml al cuts Try.f43 sg (code, true) (fun r o => Q r.1 r.2.1) tOk sOk hm Try.func43 (by kernel_rfl) h (by kernel_rfl)

end spec_DrawPlayActs
namespace impl_PlayActs
def T : Tab := [(56, ti56), (67, ti67), (3, ti3), (62, ti62)]
theorem tOk : TabOk P T := .cons ok56 (.cons ok67 (.cons ok3 (.cons ok62 (.nil))))
def S : SigTab := [((47, []), impl_IsDispatcher.sg), ((117, []), impl_Dispatcher_own.sg), ((115, []), impl_Dispatcher_acted.sg)]
theorem sOk : SigOk P S := .cons fn47 (.cons fn117 (.cons fn115 (.nil)))
def al : List Nat := []
def cuts : Cuts := [(5, [(1, none), (4, none), (7, none), (18, none), (19, none), (20, none)])]
def at5 (d : D.Dispatcher) (list : List (D.Act)) (Q : D.Dispatcher → Int → Bool → Prop) (out5_7 : D.Dispatcher) (v205_20 : Int) : Prop := Run P Try.f44 sg (fun r o => Q r.1 r.2.1 r.2.2.1) (todoOf Try.f44 5) (envOf 40 [(1, .dat (.sl D.tAct) .ro list), (4, .box D.tDispatcher (.pair .ro (.pair .ro (.pair .ro (.pair (.own 60 .ro) (.own 132 .ro))))) (0, (0, (0, (([] : List (D.Job)), ([] : List (D.Task))))))), (7, .box D.tDispatcher (.pair .ro (.pair .ro (.pair .ro (.pair (.own 60 .ro) (.own 132 .ro))))) out5_7), (18, .dat (.sl D.tAct) .ro list), (19, .dat (.int .i64) .ro (((List.length list) : Nat) : Int)), (20, .dat (.int .i64) .ro v205_20)])
theorem at5_ (d : D.Dispatcher) (list : List (D.Act)) (Q : D.Dispatcher → Int → Bool → Prop) (out5_7 : D.Dispatcher) (v205_20 : Int) (h :
  cnd (decide (v205_20 < (((List.length list) : Nat) : Int)))
   (((0 : Int) ≤ v205_20 ∧ v205_20 < (((List.length list) : Nat) : Int)) ∧
    impl_Dispatcher_acted.call out5_7 (List.getD list (Int.toNat v205_20) (0, (0, (0, (0, (0, (0, 0))))))) (fun r1 r2 =>
     cnd (!r2)
      (Q out5_7 v205_20 true)
      (((-9223372036854775808 : Int) ≤ (v205_20 + 1) ∧ (v205_20 + 1) ≤ 9223372036854775807) ∧
       at5 d list Q r1 (v205_20 + 1))))
   ((((List.length list) ≤ 281474976710656) →
    Q out5_7 (((List.length list) : Nat) : Int) true))) : at5 d list Q out5_7 v205_20 :=
  Run.fml al cuts Try.f44 sg (fun r o => Q r.1 r.2.1 r.2.2.1) (todoOf Try.f44 5) (envOf 40 [(1, .dat (.sl D.tAct) .ro list), (4, .box D.tDispatcher (.pair .ro (.pair .ro (.pair .ro (.pair (.own 60 .ro) (.own 132 .ro))))) (0, (0, (0, (([] : List (D.Job)), ([] : List (D.Task))))))), (7, .box D.tDispatcher (.pair .ro (.pair .ro (.pair .ro (.pair (.own 60 .ro) (.own 132 .ro))))) out5_7), (18, .dat (.sl D.tAct) .ro list), (19, .dat (.int .i64) .ro (((List.length list) : Nat) : Int)), (20, .dat (.int .i64) .ro v205_20)]) tOk sOk hm h (by kernel_rfl)
theorem call_ (d : D.Dispatcher) (list : List (D.Act)) (Q : D.Dispatcher → Int → Bool → Prop) (h :
  impl_IsDispatcher.call d (fun r1 =>
   cnd (!r1)
    (Q (0, (0, (0, (([] : List (D.Job)), ([] : List (D.Task)))))) 0 false)
    (impl_Dispatcher_own.call d (fun r2 =>
      (((List.length list) ≤ 281474976710656) →
      at5 d list Q r2 0))))) : call d list Q :=
  CallsT.fml al cuts Try.f44 sg (d, list, true) (fun r o => Q r.1 r.2.1 r.2.2.1) tOk sOk hm Try.func44 (by kernel_rfl) h (by kernel_rfl)

end impl_PlayActs
namespace spec_PlayActs
def T : Tab := [(56, ti56), (67, ti67), (3, ti3), (62, ti62)]
theorem tOk : TabOk P T := .cons ok56 (.cons ok67 (.cons ok3 (.cons ok62 (.nil))))
def S : SigTab := [((112, []), spec_l12Good.sg), ((118, []), spec_l12Own.sg), ((116, []), spec_l12Act.sg)]
theorem sOk : SigOk P S := .cons fn112 (.cons fn118 (.cons fn116 (.nil)))
def al : List Nat := []
def cuts : Cuts := [(5, [(1, none), (4, none), (7, none), (8, none)])]
def at5 (d : D.Dispatcher) (list : List (D.Act)) (Q : D.Dispatcher → Int → Bool → Prop) (out5_7 : D.Dispatcher) (i5_8 : Int) : Prop := Run P Try.f45 sg (fun r o => Q r.1 r.2.1 r.2.2.1) (todoOf Try.f45 5) (envOf 40 [(1, .dat (.sl D.tAct) .ro list), (4, .box D.tDispatcher (.pair .ro (.pair .ro (.pair .ro (.pair (.own 60 .ro) (.own 132 .ro))))) (0, (0, (0, (([] : List (D.Job)), ([] : List (D.Task))))))), (7, .box D.tDispatcher (.pair .ro (.pair .ro (.pair .ro (.pair (.own 60 .ro) (.own 132 .ro))))) out5_7), (8, .dat (.int .i64) .ro i5_8)])
theorem at5_ (d : D.Dispatcher) (list : List (D.Act)) (Q : D.Dispatcher → Int → Bool → Prop) (out5_7 : D.Dispatcher) (i5_8 : Int) (h :
  (((List.length list) ≤ 281474976710656) →
  cnd (decide (i5_8 < (((List.length list) : Nat) : Int)))
   (((0 : Int) ≤ i5_8 ∧ i5_8 < (((List.length list) : Nat) : Int)) ∧
    spec_l12Act.call out5_7 (List.getD list (Int.toNat i5_8) (0, (0, (0, (0, (0, (0, 0))))))) (fun r1 r2 =>
     cnd (!r2)
      (Q out5_7 i5_8 true)
      (((-9223372036854775808 : Int) ≤ (i5_8 + 1) ∧ (i5_8 + 1) ≤ 9223372036854775807) ∧
       at5 d list Q r1 (i5_8 + 1))))
   ((((List.length list) ≤ 281474976710656) →
    Q out5_7 (((List.length list) : Nat) : Int) true)))) : at5 d list Q out5_7 i5_8 :=
  Run.fml al cuts Try.f45 sg (fun r o => Q r.1 r.2.1 r.2.2.1) (todoOf Try.f45 5) (envOf 40 [(1, .dat (.sl D.tAct) .ro list), (4, .box D.tDispatcher (.pair .ro (.pair .ro (.pair .ro (.pair (.own 60 .ro) (.own 132 .ro))))) (0, (0, (0, (([] : List (D.Job)), ([] : List (D.Task))))))), (7, .box D.tDispatcher (.pair .ro (.pair .ro (.pair .ro (.pair (.own 60 .ro) (.own 132 .ro))))) out5_7), (8, .dat (.int .i64) .ro i5_8)]) tOk sOk hm h (by kernel_rfl)
theorem call_ (d : D.Dispatcher) (list : List (D.Act)) (Q : D.Dispatcher → Int → Bool → Prop) (h :
  spec_l12Good.call d (fun r1 =>
   cnd (!r1)
    (Q (0, (0, (0, (([] : List (D.Job)), ([] : List (D.Task)))))) 0 false)
    (spec_l12Own.call d (fun r2 =>
      at5 d list Q r2 0)))) : call d list Q :=
  CallsT.fml al cuts Try.f45 sg (d, list, true) (fun r o => Q r.1 r.2.1 r.2.2.1) tOk sOk hm Try.func45 (by kernel_rfl) h (by kernel_rfl)

end spec_PlayActs
namespace laws_vDispatcher
def T : Tab := [(56, ti56), (3, ti3), (39, ti39), (54, ti54)]
theorem tOk : TabOk P T := .cons ok56 (.cons ok3 (.cons ok39 (.cons ok54 (.nil))))
def S : SigTab := [((119, []), laws_vJobs.sg), ((120, []), laws_vTasks.sg)]
theorem sOk : SigOk P S := .cons fn119 (.cons fn120 (.nil))
def al : List Nat := []
def cuts : Cuts := []
theorem call_ (a : D.Dispatcher) (b : D.Dispatcher) (Q : Bool → Prop) (h :
  cnd (decide (a.1 = b.1))
   (cnd (cond true (decide (a.2.1 = b.2.1)) false)
     (cnd (cond true (decide (a.2.2.1 = b.2.2.1)) false)
       (laws_vJobs.call a.2.2.2.1 b.2.2.2.1 (fun r1 =>
         cnd (cond true r1 false)
          (laws_vTasks.call a.2.2.2.2 b.2.2.2.2 (fun r2 =>
            Q (cond true r2 false)))
          (Q false)))
       (Q false))
     (Q false))
   (Q false)) : call a b Q :=
  CallsT.fml al cuts Try.f46 sg (a, b, true) (fun r o => Q r.1) tOk sOk hm Try.func46 (by kernel_rfl) h (by kernel_rfl)

end laws_vDispatcher
namespace impl_IsDispatcher
def T : Tab := [(56, ti56), (3, ti3), (39, ti39), (54, ti54), (132, ti132), (60, ti60)]
theorem tOk : TabOk P T := .cons ok56 (.cons ok3 (.cons ok39 (.cons ok54 (.cons ok132 (.cons ok60 (.nil))))))
def S : SigTab := [((82, []), impl_within.sg), ((83, []), impl_IsJobs.sg), ((121, []), impl_isNumber.sg), ((122, []), impl_Dispatcher_endOf.sg)]
theorem sOk : SigOk P S := .cons fn82 (.cons fn83 (.cons fn121 (.cons fn122 (.nil))))
def al : List Nat := []
def cuts : Cuts := [(4, [(1, none), (30, none), (31, none), (32, none)]), (11, [(1, none), (4, none), (30, none), (31, none), (32, none), (109, none), (110, none), (111, none)])]
def at4 (d : D.Dispatcher) (Q : Bool → Prop) (v324_32 : Int) : Prop := Run P Try.f47 sg (fun r o => Q r.1) (todoOf Try.f47 4) (envOf 137 [(1, .box D.tDispatcher .ro d), (30, .dat (.sl D.tTask) .ro d.2.2.2.2), (31, .dat (.int .i64) .ro (((List.length d.2.2.2.2) : Nat) : Int)), (32, .dat (.int .i64) .ro v324_32)])
def at11 (d : D.Dispatcher) (Q : Bool → Prop) (t11_4 : D.Task) (v3211_32 : Int) (v10911_109 : List (D.Task)) (v11011_110 : Int) (v11111_111 : Int) : Prop := Run P Try.f47 sg (fun r o => Q r.1) (todoOf Try.f47 11) (envOf 137 [(1, .box D.tDispatcher .ro d), (4, .box D.tTask .ro t11_4), (30, .dat (.sl D.tTask) .ro d.2.2.2.2), (31, .dat (.int .i64) .ro (((List.length d.2.2.2.2) : Nat) : Int)), (32, .dat (.int .i64) .ro v3211_32), (109, .dat (.sl D.tTask) .ro v10911_109), (110, .dat (.int .i64) .ro v11011_110), (111, .dat (.int .i64) .ro v11111_111)])
theorem at4_ (d : D.Dispatcher) (Q : Bool → Prop) (v324_32 : Int) (h :
  cnd (decide (v324_32 < (((List.length d.2.2.2.2) : Nat) : Int)))
   (((0 : Int) ≤ v324_32 ∧ v324_32 < (((List.length d.2.2.2.2) : Nat) : Int)) ∧
    impl_isNumber.call (List.getD d.2.2.2.2 (Int.toNat v324_32) (0, (0, 0))).1 (((List.length d.2.2.2.1) : Nat) : Int) (fun r1 =>
     cnd (!r1)
      ((((List.length d.2.2.2.1) ≤ 281474976710656) →
       Q false))
      (impl_isNumber.call (List.getD d.2.2.2.2 (Int.toNat v324_32) (0, (0, 0))).2.1 d.1 (fun r2 =>
        cnd (cond false true (!r2))
         ((((List.length d.2.2.2.1) ≤ 281474976710656) →
          Q false))
         (((0 : Int) ≤ (List.getD d.2.2.2.2 (Int.toNat v324_32) (0, (0, 0))).1 ∧ (List.getD d.2.2.2.2 (Int.toNat v324_32) (0, (0, 0))).1 < (((List.length d.2.2.2.1) : Nat) : Int)) ∧
          ((-9223372036854775808 : Int) ≤ (d.2.2.1 - 1) ∧ (d.2.2.1 - 1) ≤ 9223372036854775807) ∧
          impl_within.call (List.getD d.2.2.2.2 (Int.toNat v324_32) (0, (0, 0))).2.2 (List.getD d.2.2.2.1 (Int.toNat (List.getD d.2.2.2.2 (Int.toNat v324_32) (0, (0, 0))).1) (0, (0, (0, 0)))).2.2.1 (d.2.2.1 - 1) (fun r3 =>
           (((List.length d.2.2.2.1) ≤ 281474976710656) →
           cnd (cond false true (!r3))
            (Q false)
            (cnd (decide (0 < v324_32))
              (((-9223372036854775808 : Int) ≤ (v324_32 - 1) ∧ (v324_32 - 1) ≤ 9223372036854775807) ∧
               ((0 : Int) ≤ (v324_32 - 1) ∧ (v324_32 - 1) < (((List.length d.2.2.2.2) : Nat) : Int)) ∧
               cnd (decide ((List.getD d.2.2.2.2 (Int.toNat v324_32) (0, (0, 0))).2.2 < (List.getD d.2.2.2.2 (Int.toNat (v324_32 - 1)) (0, (0, 0))).2.2))
                (cnd (cond true true false)
                  (Q false)
                  (((0 : Int) ≤ 0 ∧ 0 ≤ v324_32 ∧ v324_32 ≤ (((List.length d.2.2.2.2) : Nat) : Int)) ∧
                   (((List.length (List.drop (Int.toNat 0) (List.take (Int.toNat v324_32) d.2.2.2.2))) ≤ 281474976710656) →
                   at11 d Q (List.getD d.2.2.2.2 (Int.toNat v324_32) (0, (0, 0))) v324_32 (List.drop (Int.toNat 0) (List.take (Int.toNat v324_32) d.2.2.2.2)) (((List.length (List.drop (Int.toNat 0) (List.take (Int.toNat v324_32) d.2.2.2.2))) : Nat) : Int) 0)))
                (((-9223372036854775808 : Int) ≤ (v324_32 - 1) ∧ (v324_32 - 1) ≤ 9223372036854775807) ∧
                 ((0 : Int) ≤ (v324_32 - 1) ∧ (v324_32 - 1) < (((List.length d.2.2.2.2) : Nat) : Int)) ∧
                 cnd (decide ((List.getD d.2.2.2.2 (Int.toNat (v324_32 - 1)) (0, (0, 0))).2.2 = (List.getD d.2.2.2.2 (Int.toNat v324_32) (0, (0, 0))).2.2))
                  (((-9223372036854775808 : Int) ≤ (v324_32 - 1) ∧ (v324_32 - 1) ≤ 9223372036854775807) ∧
                   ((0 : Int) ≤ (v324_32 - 1) ∧ (v324_32 - 1) < (((List.length d.2.2.2.2) : Nat) : Int)) ∧
                   cnd (cond true (cond false true (cond true (decide ((List.getD d.2.2.2.2 (Int.toNat v324_32) (0, (0, 0))).2.1 ≤ (List.getD d.2.2.2.2 (Int.toNat (v324_32 - 1)) (0, (0, 0))).2.1)) false)) false)
                    (Q false)
                    (((0 : Int) ≤ 0 ∧ 0 ≤ v324_32 ∧ v324_32 ≤ (((List.length d.2.2.2.2) : Nat) : Int)) ∧
                     (((List.length (List.drop (Int.toNat 0) (List.take (Int.toNat v324_32) d.2.2.2.2))) ≤ 281474976710656) →
                     at11 d Q (List.getD d.2.2.2.2 (Int.toNat v324_32) (0, (0, 0))) v324_32 (List.drop (Int.toNat 0) (List.take (Int.toNat v324_32) d.2.2.2.2)) (((List.length (List.drop (Int.toNat 0) (List.take (Int.toNat v324_32) d.2.2.2.2))) : Nat) : Int) 0)))
                  (cnd (cond true (cond false true false) false)
                    (Q false)
                    (((0 : Int) ≤ 0 ∧ 0 ≤ v324_32 ∧ v324_32 ≤ (((List.length d.2.2.2.2) : Nat) : Int)) ∧
                     (((List.length (List.drop (Int.toNat 0) (List.take (Int.toNat v324_32) d.2.2.2.2))) ≤ 281474976710656) →
                     at11 d Q (List.getD d.2.2.2.2 (Int.toNat v324_32) (0, (0, 0))) v324_32 (List.drop (Int.toNat 0) (List.take (Int.toNat v324_32) d.2.2.2.2)) (((List.length (List.drop (Int.toNat 0) (List.take (Int.toNat v324_32) d.2.2.2.2))) : Nat) : Int) 0)))))
              (((0 : Int) ≤ 0 ∧ 0 ≤ v324_32 ∧ v324_32 ≤ (((List.length d.2.2.2.2) : Nat) : Int)) ∧
               (((List.length (List.drop (Int.toNat 0) (List.take (Int.toNat v324_32) d.2.2.2.2))) ≤ 281474976710656) →
               at11 d Q (List.getD d.2.2.2.2 (Int.toNat v324_32) (0, (0, 0))) v324_32 (List.drop (Int.toNat 0) (List.take (Int.toNat v324_32) d.2.2.2.2)) (((List.length (List.drop (Int.toNat 0) (List.take (Int.toNat v324_32) d.2.2.2.2))) : Nat) : Int) 0))))))))))
   (Q true)) : at4 d Q v324_32 :=
  Run.fml al cuts Try.f47 sg (fun r o => Q r.1) (todoOf Try.f47 4) (envOf 137 [(1, .box D.tDispatcher .ro d), (30, .dat (.sl D.tTask) .ro d.2.2.2.2), (31, .dat (.int .i64) .ro (((List.length d.2.2.2.2) : Nat) : Int)), (32, .dat (.int .i64) .ro v324_32)]) tOk sOk hm h (by kernel_rfl)
theorem at11_ (d : D.Dispatcher) (Q : Bool → Prop) (t11_4 : D.Task) (v3211_32 : Int) (v10911_109 : List (D.Task)) (v11011_110 : Int) (v11111_111 : Int) (h :
  cnd (decide (v11111_111 < v11011_110))
   (((0 : Int) ≤ v11111_111 ∧ v11111_111 < (((List.length v10911_109) : Nat) : Int)) ∧
    cnd (decide ((List.getD v10911_109 (Int.toNat v11111_111) (0, (0, 0))).1 = t11_4.1))
     (Q false)
     (cnd (decide ((List.getD v10911_109 (Int.toNat v11111_111) (0, (0, 0))).2.1 = t11_4.2.1))
       (impl_Dispatcher_endOf.call d (List.getD v10911_109 (Int.toNat v11111_111) (0, (0, 0))) (fun r1 =>
         cnd (cond false true (cond true (decide (t11_4.2.2 < r1)) false))
          (Q false)
          (((-9223372036854775808 : Int) ≤ (v11111_111 + 1) ∧ (v11111_111 + 1) ≤ 9223372036854775807) ∧
           at11 d Q t11_4 v3211_32 v10911_109 v11011_110 (v11111_111 + 1))))
       (cnd (cond false true false)
         (Q false)
         (((-9223372036854775808 : Int) ≤ (v11111_111 + 1) ∧ (v11111_111 + 1) ≤ 9223372036854775807) ∧
          at11 d Q t11_4 v3211_32 v10911_109 v11011_110 (v11111_111 + 1)))))
   (((-9223372036854775808 : Int) ≤ (v3211_32 + 1) ∧ (v3211_32 + 1) ≤ 9223372036854775807) ∧
    at4 d Q (v3211_32 + 1))) : at11 d Q t11_4 v3211_32 v10911_109 v11011_110 v11111_111 :=
  Run.fml al cuts Try.f47 sg (fun r o => Q r.1) (todoOf Try.f47 11) (envOf 137 [(1, .box D.tDispatcher .ro d), (4, .box D.tTask .ro t11_4), (30, .dat (.sl D.tTask) .ro d.2.2.2.2), (31, .dat (.int .i64) .ro (((List.length d.2.2.2.2) : Nat) : Int)), (32, .dat (.int .i64) .ro v3211_32), (109, .dat (.sl D.tTask) .ro v10911_109), (110, .dat (.int .i64) .ro v11011_110), (111, .dat (.int .i64) .ro v11111_111)]) tOk sOk hm h (by kernel_rfl)
theorem call_ (d : D.Dispatcher) (Q : Bool → Prop) (h :
  impl_within.call d.1 1 4 (fun r1 =>
   cnd (!r1)
    (Q false)
    (impl_within.call d.2.1 1 4 (fun r2 =>
      cnd (cond false true (!r2))
       (Q false)
       (impl_within.call d.2.2.1 0 1000 (fun r3 =>
         cnd (cond false true (!r3))
          (Q false)
          (impl_IsJobs.call d.2.2.2.1 (fun r4 =>
            cnd (cond false true (!r4))
             (Q false)
             ((((List.length d.2.2.2.2) ≤ 281474976710656) →
              at4 d Q 0)))))))))) : call d Q :=
  CallsT.fml al cuts Try.f47 sg (d, true) (fun r o => Q r.1) tOk sOk hm Try.func47 (by kernel_rfl) h (by kernel_rfl)

end impl_IsDispatcher
namespace spec_IsDispatcher
def T : Tab := [(56, ti56)]
theorem tOk : TabOk P T := .cons ok56 (.nil)
def S : SigTab := [((112, []), spec_l12Good.sg)]
theorem sOk : SigOk P S := .cons fn112 (.nil)
def al : List Nat := []
def cuts : Cuts := []
theorem call_ (d : D.Dispatcher) (Q : Bool → Prop) (h :
  spec_l12Good.call d (fun r1 =>
   Q r1)) : call d Q :=
  CallsT.fml al cuts Try.f48 sg (d, true) (fun r o => Q r.1) tOk sOk hm Try.func48 (by kernel_rfl) h (by kernel_rfl)

end spec_IsDispatcher
namespace laws_vAt
def T : Tab := [(22, ti22), (3, ti3), (5, ti5)]
theorem tOk : TabOk P T := .cons ok22 (.cons ok3 (.cons ok5 (.nil)))
def S : SigTab := []
theorem sOk : SigOk P S := .nil
def al : List Nat := []
def cuts : Cuts := []
theorem call_ (code : List (Int)) (i : Int) (Q : Int → Prop) (h :
  (((List.length code) ≤ 281474976710656) →
  cnd (decide (i < (((List.length code) : Nat) : Int)))
   (((0 : Int) ≤ i ∧ i < (((List.length code) : Nat) : Int)) ∧
    (((0 : Int) ≤ (List.getD code (Int.toNat i) 0) ∧ (List.getD code (Int.toNat i) 0) ≤ 255) →
    Q (List.getD code (Int.toNat i) 0)))
   (((-9223372036854775808 : Int) ≤ (i * 7) ∧ (i * 7) ≤ 9223372036854775807) ∧
    (((List.length code) ≤ 281474976710656) →
    ((-9223372036854775808 : Int) ≤ ((i * 7) + (((List.length code) : Nat) : Int)) ∧ ((i * 7) + (((List.length code) : Nat) : Int)) ≤ 9223372036854775807) ∧
    ((256 : Int) ≠ 0) ∧
    Q (Int.tmod ((i * 7) + (((List.length code) : Nat) : Int)) 256))))) : call code i Q :=
  CallsT.fml al cuts Try.f49 sg (code, i, true) (fun r o => Q r.1) tOk sOk hm Try.func49 (by kernel_rfl) h (by kernel_rfl)

end laws_vAt
end Go.Vm
