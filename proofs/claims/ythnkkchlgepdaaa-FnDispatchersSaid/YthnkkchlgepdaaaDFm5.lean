/- Formulas of functions. Written by a program of this work out of the evaluator Vm. No condition. -/
import Derived.Test.YthnkkchlgepdaaaDSg
import Derived.KernelRfl
namespace Go.Vm
open Go.Proofs
set_option linter.unusedVariables false
set_option maxRecDepth 100000
namespace spec_l1Cur_job12
def T : Tab := [(60, ti60), (25, ti25), (3, ti3)]
theorem tOk : TabOk P T := .cons ok60 (.cons ok25 (.cons ok3 (.nil)))
def S : SigTab := [((87, []), spec_l1Cur_among.sg), ((87, [1000000]), spec_l1Cur_among_o.sg), ((91, []), spec_l1Cur_pick.sg), ((91, [1000000]), spec_l1Cur_pick_o.sg)]
theorem sOk : SigOk P S := .cons fn87 (.cons fn87 (.cons fn91 (.cons fn91 (.nil))))
def al : List Nat := []
def cuts : Cuts := []
theorem call_ (c : D.L2Search) (now : Int) (Q : D.Job → D.L2Search → Prop) (h :
  spec_l1Cur_among.call c [1, 2, 3, 5, 7, 0] (fun r1 o2 =>
   spec_l1Cur_pick.call o2 6 (fun r3 o4 =>
    spec_l1Cur_among.call o4 [0, 0, 1, 3, (-1)] (fun r5 o6 =>
     ((-9223372036854775808 : Int) ≤ (now + r5) ∧ (now + r5) ≤ 9223372036854775807) ∧
     spec_l1Cur_pick.call o6 20 (fun r7 o8 =>
      ((-9223372036854775808 : Int) ≤ (now + r7) ∧ (now + r7) ≤ 9223372036854775807) ∧
      Q (r1, (r3, ((now + r5), (now + r7)))) o8))))) : call c now Q :=
  CallsT.fml al cuts Try.f168 sg (c, now, true) (fun r o => Q r.1 o.1) tOk sOk hm Try.func168 (by kernel_rfl) h (by kernel_rfl)

end spec_l1Cur_job12
namespace spec_l1Cur_job12_o
def T : Tab := [(60, ti60), (25, ti25), (3, ti3)]
theorem tOk : TabOk P T := .cons ok60 (.cons ok25 (.cons ok3 (.nil)))
def S : SigTab := [((87, []), spec_l1Cur_among.sg), ((87, [1000000]), spec_l1Cur_among_o.sg), ((91, []), spec_l1Cur_pick.sg), ((91, [1000000]), spec_l1Cur_pick_o.sg)]
theorem sOk : SigOk P S := .cons fn87 (.cons fn87 (.cons fn91 (.cons fn91 (.nil))))
def al : List Nat := []
def cuts : Cuts := []
theorem call_ (c : D.L2Search) (now : Int) (Q : D.Job → D.L2Search → Prop) (h :
  spec_l1Cur_among_o.call c [1, 2, 3, 5, 7, 0] (fun r1 o2 =>
   spec_l1Cur_pick_o.call o2 6 (fun r3 o4 =>
    spec_l1Cur_among_o.call o4 [0, 0, 1, 3, (-1)] (fun r5 o6 =>
     ((-9223372036854775808 : Int) ≤ (now + r5) ∧ (now + r5) ≤ 9223372036854775807) ∧
     spec_l1Cur_pick_o.call o6 20 (fun r7 o8 =>
      ((-9223372036854775808 : Int) ≤ (now + r7) ∧ (now + r7) ≤ 9223372036854775807) ∧
      Q (r1, (r3, ((now + r5), (now + r7)))) o8))))) : call c now Q :=
  CallsT.fml al cuts Try.f168 sg (c, now, true) (fun r o => Q r.1 o.1) tOk sOk hm Try.func168 (by kernel_rfl) h (by kernel_rfl)

end spec_l1Cur_job12_o
namespace impl_Act_named
def T : Tab := [(62, ti62), (3, ti3), (60, ti60)]
theorem tOk : TabOk P T := .cons ok62 (.cons ok3 (.cons ok60 (.nil)))
def S : SigTab := []
theorem sOk : SigOk P S := .nil
def al : List Nat := []
def cuts : Cuts := []
theorem call_ (a : D.Act) (Q : Bool → Prop) (h :
  cnd (decide (a.1 = 1))
   (Q ((decide ((0 : Int) = 0)) && ((decide (a.2.1 = 0)) && ((decide (a.2.2.1 = 0)) && ((decide ((0 : Int) = 0)) && ((decide ((0 : Int) = 0)) && ((decide ((0 : Int) = 0)) && (decide ((0 : Int) = 0)))))))))
   (cnd (decide (a.1 = 5))
     (Q ((decide ((0 : Int) = 0)) && ((decide ((0 : Int) = 0)) && ((decide ((0 : Int) = 0)) && ((decide (a.2.2.2.1 = 0)) && ((decide (a.2.2.2.2.1 = 0)) && ((decide (a.2.2.2.2.2.1 = 0)) && (decide (a.2.2.2.2.2.2 = 0)))))))))
     (cnd (decide (a.1 = 2))
       (cnd (decide (a.1 = 2))
         (Q ((decide ((0 : Int) = 0)) && ((decide ((0 : Int) = 0)) && ((decide (a.2.2.1 = 0)) && ((decide (a.2.2.2.1 = 0)) && ((decide (a.2.2.2.2.1 = 0)) && ((decide (a.2.2.2.2.2.1 = 0)) && (decide (a.2.2.2.2.2.2 = 0)))))))))
         (Q ((decide ((0 : Int) = 0)) && ((decide (a.2.1 = 0)) && ((decide (a.2.2.1 = 0)) && ((decide (a.2.2.2.1 = 0)) && ((decide (a.2.2.2.2.1 = 0)) && ((decide (a.2.2.2.2.2.1 = 0)) && (decide (a.2.2.2.2.2.2 = 0))))))))))
       (cnd (decide (a.1 = 3))
         (cnd (decide (a.1 = 3))
           (Q ((decide ((0 : Int) = 0)) && ((decide ((0 : Int) = 0)) && ((decide (a.2.2.1 = 0)) && ((decide (a.2.2.2.1 = 0)) && ((decide (a.2.2.2.2.1 = 0)) && ((decide (a.2.2.2.2.2.1 = 0)) && (decide (a.2.2.2.2.2.2 = 0)))))))))
           (Q ((decide ((0 : Int) = 0)) && ((decide (a.2.1 = 0)) && ((decide (a.2.2.1 = 0)) && ((decide (a.2.2.2.1 = 0)) && ((decide (a.2.2.2.2.1 = 0)) && ((decide (a.2.2.2.2.2.1 = 0)) && (decide (a.2.2.2.2.2.2 = 0))))))))))
         (cnd (decide (a.1 = 4))
           (Q ((decide ((0 : Int) = 0)) && ((decide ((0 : Int) = 0)) && ((decide (a.2.2.1 = 0)) && ((decide (a.2.2.2.1 = 0)) && ((decide (a.2.2.2.2.1 = 0)) && ((decide (a.2.2.2.2.2.1 = 0)) && (decide (a.2.2.2.2.2.2 = 0)))))))))
           (Q ((decide ((0 : Int) = 0)) && ((decide (a.2.1 = 0)) && ((decide (a.2.2.1 = 0)) && ((decide (a.2.2.2.1 = 0)) && ((decide (a.2.2.2.2.1 = 0)) && ((decide (a.2.2.2.2.2.1 = 0)) && (decide (a.2.2.2.2.2.2 = 0)))))))))))))) : call a Q :=
  CallsT.fml al cuts Try.f169 sg (a, true) (fun r o => Q r.1) tOk sOk hm Try.func169 (by kernel_rfl) h (by kernel_rfl)

end impl_Act_named
namespace impl_Dispatcher_done
def T : Tab := [(56, ti56), (62, ti62), (3, ti3), (39, ti39), (60, ti60), (54, ti54), (132, ti132)]
theorem tOk : TabOk P T := .cons ok56 (.cons ok62 (.cons ok3 (.cons ok39 (.cons ok60 (.cons ok54 (.cons ok132 (.nil)))))))
def S : SigTab := [((121, []), impl_isNumber.sg), ((187, []), impl_Dispatcher_has.sg), ((82, []), impl_within.sg), ((188, []), impl_Dispatcher_step.sg), ((189, []), impl_Dispatcher_without.sg)]
theorem sOk : SigOk P S := .cons fn121 (.cons fn187 (.cons fn82 (.cons fn188 (.cons fn189 (.nil)))))
def al : List Nat := []
def cuts : Cuts := [(12, [(2, none), (3, none), (4, none), (7, none)]), (29, [(2, none), (4, none), (96, none), (97, none), (98, none)])]
def at12 (d : D.Dispatcher) (a : D.Act) (Q : D.Dispatcher → Bool → Prop) (d12_2 : D.Dispatcher) (k12_7 : Int) : Prop := Run P Try.f170 sg (fun r o => Q r.1 r.2.1) (todoOf Try.f170 12) (envOf 115 [(2, .box D.tDispatcher (.pair .ro (.pair .ro (.pair .ro (.pair (.own 60 .ro) (.own 132 .ro))))) d12_2), (3, .box D.tAct .ro a), (4, .box D.tDispatcher (.pair .ro (.pair .ro (.pair .ro (.pair (.own 60 .ro) (.own 132 .ro))))) (0, (0, (0, (([] : List (D.Job)), ([] : List (D.Task))))))), (7, .dat (.int .i64) .ro k12_7)])
def at29 (d : D.Dispatcher) (a : D.Act) (Q : D.Dispatcher → Bool → Prop) (v9829_98 : Int) : Prop := Run P Try.f170 sg (fun r o => Q r.1 r.2.1) (todoOf Try.f170 29) (envOf 115 [(2, .box D.tDispatcher (.pair .ro (.pair .ro (.pair .ro (.pair (.own 60 .ro) (.own 132 .ro))))) d), (4, .box D.tDispatcher (.pair .ro (.pair .ro (.pair .ro (.pair (.own 60 .ro) (.own 132 .ro))))) (0, (0, (0, (([] : List (D.Job)), ([] : List (D.Task))))))), (96, .ref ⟨2, 0, [], 4⟩ none), (97, .dat (.int .i64) .ro (((List.length d.2.2.2.2) : Nat) : Int)), (98, .dat (.int .i64) .ro v9829_98)])
theorem at12_ (d : D.Dispatcher) (a : D.Act) (Q : D.Dispatcher → Bool → Prop) (d12_2 : D.Dispatcher) (k12_7 : Int) (h :
  cnd (decide (k12_7 < a.2.1))
   (impl_Dispatcher_step.call d12_2 (fun r1 =>
     ((-9223372036854775808 : Int) ≤ (k12_7 + 1) ∧ (k12_7 + 1) ≤ 9223372036854775807) ∧
     at12 d a Q r1 (k12_7 + 1)))
   (Q d12_2 true)) : at12 d a Q d12_2 k12_7 :=
  Run.fml al cuts Try.f170 sg (fun r o => Q r.1 r.2.1) (todoOf Try.f170 12) (envOf 115 [(2, .box D.tDispatcher (.pair .ro (.pair .ro (.pair .ro (.pair (.own 60 .ro) (.own 132 .ro))))) d12_2), (3, .box D.tAct .ro a), (4, .box D.tDispatcher (.pair .ro (.pair .ro (.pair .ro (.pair (.own 60 .ro) (.own 132 .ro))))) (0, (0, (0, (([] : List (D.Job)), ([] : List (D.Task))))))), (7, .dat (.int .i64) .ro k12_7)]) tOk sOk hm h (by kernel_rfl)
theorem at29_ (d : D.Dispatcher) (a : D.Act) (Q : D.Dispatcher → Bool → Prop) (v9829_98 : Int) (h :
  cnd (decide (v9829_98 < (((List.length d.2.2.2.2) : Nat) : Int)))
   (((0 : Int) ≤ v9829_98 ∧ v9829_98 < (((List.length d.2.2.2.2) : Nat) : Int)) ∧
    ((-9223372036854775808 : Int) ≤ (d.1 - 1) ∧ (d.1 - 1) ≤ 9223372036854775807) ∧
    cnd (decide ((List.getD d.2.2.2.2 (0 + (Int.toNat v9829_98)) (0, (0, 0))).2.1 = (d.1 - 1)))
     (Q (0, (0, (0, (([] : List (D.Job)), ([] : List (D.Task)))))) false)
     (((-9223372036854775808 : Int) ≤ (v9829_98 + 1) ∧ (v9829_98 + 1) ≤ 9223372036854775807) ∧
      at29 d a Q (v9829_98 + 1)))
   (((-9223372036854775808 : Int) ≤ (d.1 - 1) ∧ (d.1 - 1) ≤ 9223372036854775807) ∧
    Q ((d.1 - 1), d.2) true)) : at29 d a Q v9829_98 :=
  Run.fml al cuts Try.f170 sg (fun r o => Q r.1 r.2.1) (todoOf Try.f170 29) (envOf 115 [(2, .box D.tDispatcher (.pair .ro (.pair .ro (.pair .ro (.pair (.own 60 .ro) (.own 132 .ro))))) d), (4, .box D.tDispatcher (.pair .ro (.pair .ro (.pair .ro (.pair (.own 60 .ro) (.own 132 .ro))))) (0, (0, (0, (([] : List (D.Job)), ([] : List (D.Task))))))), (96, .ref ⟨2, 0, [], 4⟩ none), (97, .dat (.int .i64) .ro (((List.length d.2.2.2.2) : Nat) : Int)), (98, .dat (.int .i64) .ro v9829_98)]) tOk sOk hm h (by kernel_rfl)
theorem call_ (d : D.Dispatcher) (a : D.Act) (Q : D.Dispatcher → Bool → Prop) (h :
  (((List.length d.2.2.2.1) ≤ 281474976710656) →
  impl_isNumber.call a.2.1 (((List.length d.2.2.2.1) : Nat) : Int) (fun r1 =>
   cnd r1
    (impl_Dispatcher_has.call d a.2.1 (fun r2 =>
      cnd (decide (a.1 = 1))
       (cnd (decide (a.2.2.2.2.2.1 < d.2.2.1))
         (Q (0, (0, (0, (([] : List (D.Job)), ([] : List (D.Task)))))) false)
         (((List.length d.2.2.2.1) + (List.length [a.2.2.2]) ≤ 4294967296) ∧
          Q (d.1, (d.2.1, (d.2.2.1, ((d.2.2.2.1 ++ [a.2.2.2]), d.2.2.2.2)))) true))
       (cnd (decide (a.1 = 2))
         (((-9223372036854775808 : Int) ≤ (1000 - d.2.2.1) ∧ (1000 - d.2.2.1) ≤ 9223372036854775807) ∧
          impl_within.call a.2.1 1 (1000 - d.2.2.1) (fun r3 =>
           cnd (!r3)
            (Q (0, (0, (0, (([] : List (D.Job)), ([] : List (D.Task)))))) false)
            (at12 d a Q d 0)))
         (cnd (decide (a.1 = 3))
           (Q (d.1, (a.2.1, d.2.2)) true)
           (cnd (decide (a.1 = 4))
             (cnd (!(cond true (!r2) false))
               (Q (0, (0, (0, (([] : List (D.Job)), ([] : List (D.Task)))))) false)
               (impl_Dispatcher_without.call d a.2.1 (fun r4 =>
                 Q r4 true)))
             (cnd (decide (a.1 = 5))
               (cnd (!(cond true (!r2) false))
                 (Q (0, (0, (0, (([] : List (D.Job)), ([] : List (D.Task)))))) false)
                 (((0 : Int) ≤ a.2.1 ∧ a.2.1 < (((List.length d.2.2.2.1) : Nat) : Int)) ∧
                  Q (d.1, (d.2.1, (d.2.2.1, ((List.set d.2.2.2.1 (0 + (Int.toNat a.2.1)) ((List.getD d.2.2.2.1 (0 + (Int.toNat a.2.1)) (0, (0, (0, 0)))).1, ((List.getD d.2.2.2.1 (0 + (Int.toNat a.2.1)) (0, (0, (0, 0)))).2.1, ((List.getD d.2.2.2.1 (0 + (Int.toNat a.2.1)) (0, (0, (0, 0)))).2.2.1, a.2.2.1)))), d.2.2.2.2)))) true))
               (cnd (decide (a.1 = 6))
                 (((-9223372036854775808 : Int) ≤ (d.1 + 1) ∧ (d.1 + 1) ≤ 9223372036854775807) ∧
                  Q ((d.1 + 1), d.2) true)
                 (cnd (decide (a.1 = 7))
                   ((((List.length d.2.2.2.2) ≤ 281474976710656) →
                    at29 d a Q 0))
                   (Q (0, (0, (0, (([] : List (D.Job)), ([] : List (D.Task)))))) false)))))))))
    (cnd (decide (a.1 = 1))
      (cnd (decide (a.2.2.2.2.2.1 < d.2.2.1))
        (Q (0, (0, (0, (([] : List (D.Job)), ([] : List (D.Task)))))) false)
        (((List.length d.2.2.2.1) + (List.length [a.2.2.2]) ≤ 4294967296) ∧
         Q (d.1, (d.2.1, (d.2.2.1, ((d.2.2.2.1 ++ [a.2.2.2]), d.2.2.2.2)))) true))
      (cnd (decide (a.1 = 2))
        (((-9223372036854775808 : Int) ≤ (1000 - d.2.2.1) ∧ (1000 - d.2.2.1) ≤ 9223372036854775807) ∧
         impl_within.call a.2.1 1 (1000 - d.2.2.1) (fun r5 =>
          cnd (!r5)
           (Q (0, (0, (0, (([] : List (D.Job)), ([] : List (D.Task)))))) false)
           (at12 d a Q d 0)))
        (cnd (decide (a.1 = 3))
          (Q (d.1, (a.2.1, d.2.2)) true)
          (cnd (decide (a.1 = 4))
            (cnd (!false)
              (Q (0, (0, (0, (([] : List (D.Job)), ([] : List (D.Task)))))) false)
              (impl_Dispatcher_without.call d a.2.1 (fun r6 =>
                Q r6 true)))
            (cnd (decide (a.1 = 5))
              (cnd (!false)
                (Q (0, (0, (0, (([] : List (D.Job)), ([] : List (D.Task)))))) false)
                (((0 : Int) ≤ a.2.1 ∧ a.2.1 < (((List.length d.2.2.2.1) : Nat) : Int)) ∧
                 Q (d.1, (d.2.1, (d.2.2.1, ((List.set d.2.2.2.1 (0 + (Int.toNat a.2.1)) ((List.getD d.2.2.2.1 (0 + (Int.toNat a.2.1)) (0, (0, (0, 0)))).1, ((List.getD d.2.2.2.1 (0 + (Int.toNat a.2.1)) (0, (0, (0, 0)))).2.1, ((List.getD d.2.2.2.1 (0 + (Int.toNat a.2.1)) (0, (0, (0, 0)))).2.2.1, a.2.2.1)))), d.2.2.2.2)))) true))
              (cnd (decide (a.1 = 6))
                (((-9223372036854775808 : Int) ≤ (d.1 + 1) ∧ (d.1 + 1) ≤ 9223372036854775807) ∧
                 Q ((d.1 + 1), d.2) true)
                (cnd (decide (a.1 = 7))
                  ((((List.length d.2.2.2.2) ≤ 281474976710656) →
                   at29 d a Q 0))
                  (Q (0, (0, (0, (([] : List (D.Job)), ([] : List (D.Task)))))) false))))))))))) : call d a Q :=
  CallsT.fml al cuts Try.f170 sg (d, a, true) (fun r o => Q r.1 r.2.1) tOk sOk hm Try.func170 (by kernel_rfl) h (by kernel_rfl)

end impl_Dispatcher_done
namespace spec_l12Plain
def T : Tab := [(62, ti62), (60, ti60), (3, ti3)]
theorem tOk : TabOk P T := .cons ok62 (.cons ok60 (.cons ok3 (.nil)))
def S : SigTab := []
theorem sOk : SigOk P S := .nil
def al : List Nat := []
def cuts : Cuts := []
theorem call_ (a : D.Act) (Q : Bool → Prop) (h :
  cnd (decide (a.1 = 1))
   (cnd (decide (a.2.1 = 0))
     (Q (cond true (decide (a.2.2.1 = 0)) false))
     (Q false))
   (cnd (decide (a.1 = 5))
     (Q ((decide (a.2.2.2.1 = 0)) && ((decide (a.2.2.2.2.1 = 0)) && ((decide (a.2.2.2.2.2.1 = 0)) && (decide (a.2.2.2.2.2.2 = 0))))))
     (cnd (decide (a.1 = 2))
       (cnd (decide (a.1 = 2))
         (cnd (decide (a.2.2.1 = 0))
           (Q (cond true ((decide (a.2.2.2.1 = 0)) && ((decide (a.2.2.2.2.1 = 0)) && ((decide (a.2.2.2.2.2.1 = 0)) && (decide (a.2.2.2.2.2.2 = 0))))) false))
           (Q false))
         (cnd (decide (a.1 = 6))
           (cnd (cond true (decide (a.2.1 = 0)) false)
             (cnd (cond true (decide (a.2.2.1 = 0)) false)
               (Q (cond true ((decide (a.2.2.2.1 = 0)) && ((decide (a.2.2.2.2.1 = 0)) && ((decide (a.2.2.2.2.2.1 = 0)) && (decide (a.2.2.2.2.2.2 = 0))))) false))
               (Q false))
             (Q false))
           (cnd (cond false true (decide (a.1 = 7)))
             (cnd (cond true (decide (a.2.1 = 0)) false)
               (cnd (cond true (decide (a.2.2.1 = 0)) false)
                 (Q (cond true ((decide (a.2.2.2.1 = 0)) && ((decide (a.2.2.2.2.1 = 0)) && ((decide (a.2.2.2.2.2.1 = 0)) && (decide (a.2.2.2.2.2.2 = 0))))) false))
                 (Q false))
               (Q false))
             (Q false))))
       (cnd (decide (a.1 = 3))
         (cnd (decide (a.1 = 3))
           (cnd (decide (a.2.2.1 = 0))
             (Q (cond true ((decide (a.2.2.2.1 = 0)) && ((decide (a.2.2.2.2.1 = 0)) && ((decide (a.2.2.2.2.2.1 = 0)) && (decide (a.2.2.2.2.2.2 = 0))))) false))
             (Q false))
           (cnd (decide (a.1 = 6))
             (cnd (cond true (decide (a.2.1 = 0)) false)
               (cnd (cond true (decide (a.2.2.1 = 0)) false)
                 (Q (cond true ((decide (a.2.2.2.1 = 0)) && ((decide (a.2.2.2.2.1 = 0)) && ((decide (a.2.2.2.2.2.1 = 0)) && (decide (a.2.2.2.2.2.2 = 0))))) false))
                 (Q false))
               (Q false))
             (cnd (cond false true (decide (a.1 = 7)))
               (cnd (cond true (decide (a.2.1 = 0)) false)
                 (cnd (cond true (decide (a.2.2.1 = 0)) false)
                   (Q (cond true ((decide (a.2.2.2.1 = 0)) && ((decide (a.2.2.2.2.1 = 0)) && ((decide (a.2.2.2.2.2.1 = 0)) && (decide (a.2.2.2.2.2.2 = 0))))) false))
                   (Q false))
                 (Q false))
               (Q false))))
         (cnd (decide (a.1 = 4))
           (cnd (decide (a.2.2.1 = 0))
             (Q (cond true ((decide (a.2.2.2.1 = 0)) && ((decide (a.2.2.2.2.1 = 0)) && ((decide (a.2.2.2.2.2.1 = 0)) && (decide (a.2.2.2.2.2.2 = 0))))) false))
             (Q false))
           (cnd (decide (a.1 = 6))
             (cnd (cond true (decide (a.2.1 = 0)) false)
               (cnd (cond true (decide (a.2.2.1 = 0)) false)
                 (Q (cond true ((decide (a.2.2.2.1 = 0)) && ((decide (a.2.2.2.2.1 = 0)) && ((decide (a.2.2.2.2.2.1 = 0)) && (decide (a.2.2.2.2.2.2 = 0))))) false))
                 (Q false))
               (Q false))
             (cnd (cond false true (decide (a.1 = 7)))
               (cnd (cond true (decide (a.2.1 = 0)) false)
                 (cnd (cond true (decide (a.2.2.1 = 0)) false)
                   (Q (cond true ((decide (a.2.2.2.1 = 0)) && ((decide (a.2.2.2.2.1 = 0)) && ((decide (a.2.2.2.2.2.1 = 0)) && (decide (a.2.2.2.2.2.2 = 0))))) false))
                   (Q false))
                 (Q false))
               (Q false)))))))) : call a Q :=
  CallsT.fml al cuts Try.f171 sg (a, true) (fun r o => Q r.1) tOk sOk hm Try.func171 (by kernel_rfl) h (by kernel_rfl)

end spec_l12Plain
namespace spec_l12May
def T : Tab := [(56, ti56), (62, ti62), (3, ti3), (60, ti60)]
theorem tOk : TabOk P T := .cons ok56 (.cons ok62 (.cons ok3 (.cons ok60 (.nil))))
def S : SigTab := [((95, []), spec_l1In.sg), ((190, []), spec_l12Idle.sg), ((191, []), spec_l12Used.sg)]
theorem sOk : SigOk P S := .cons fn95 (.cons fn190 (.cons fn191 (.nil)))
def al : List Nat := []
def cuts : Cuts := []
theorem call_ (d : D.Dispatcher) (a : D.Act) (Q : Bool → Prop) (h :
  cnd (decide (a.1 = 1))
   (Q (decide (d.2.2.1 ≤ a.2.2.2.2.2.1)))
   (cnd (decide (a.1 = 2))
     (((-9223372036854775808 : Int) ≤ (1000 - d.2.2.1) ∧ (1000 - d.2.2.1) ≤ 9223372036854775807) ∧
      spec_l1In.call a.2.1 1 (1000 - d.2.2.1) (fun r1 =>
       Q r1))
     (cnd (decide (a.1 = 4))
       (cnd (decide (a.1 = 4))
         (spec_l12Idle.call d a.2.1 (fun r2 =>
           Q r2))
         (cnd (decide (a.1 = 7))
           (((-9223372036854775808 : Int) ≤ (d.1 - 1) ∧ (d.1 - 1) ≤ 9223372036854775807) ∧
            spec_l12Used.call d (d.1 - 1) (fun r3 =>
             Q (!r3)))
           (Q true)))
       (cnd (decide (a.1 = 5))
         (spec_l12Idle.call d a.2.1 (fun r4 =>
           Q r4))
         (cnd (decide (a.1 = 7))
           (((-9223372036854775808 : Int) ≤ (d.1 - 1) ∧ (d.1 - 1) ≤ 9223372036854775807) ∧
            spec_l12Used.call d (d.1 - 1) (fun r5 =>
             Q (!r5)))
           (Q true)))))) : call d a Q :=
  CallsT.fml al cuts Try.f172 sg (d, a, true) (fun r o => Q r.1) tOk sOk hm Try.func172 (by kernel_rfl) h (by kernel_rfl)

end spec_l12May
namespace spec_l12Run
def T : Tab := [(56, ti56), (3, ti3)]
theorem tOk : TabOk P T := .cons ok56 (.cons ok3 (.nil))
def S : SigTab := [((118, []), spec_l12Own.sg), ((192, []), spec_l12Step.sg)]
theorem sOk : SigOk P S := .cons fn118 (.cons fn192 (.nil))
def al : List Nat := []
def cuts : Cuts := [(3, [(1, none), (4, none), (5, none), (6, none)])]
def at3 (d : D.Dispatcher) (steps : Int) (Q : D.Dispatcher → Prop) (out3_5 : D.Dispatcher) (i3_6 : Int) : Prop := Run P Try.f173 sg (fun r o => Q r.1) (todoOf Try.f173 3) (envOf 17 [(1, .dat (.int .i64) .ro steps), (4, .box D.tDispatcher (.pair .ro (.pair .ro (.pair .ro (.pair (.own 60 .ro) (.own 132 .ro))))) (0, (0, (0, (([] : List (D.Job)), ([] : List (D.Task))))))), (5, .box D.tDispatcher (.pair .ro (.pair .ro (.pair .ro (.pair (.own 60 .ro) (.own 132 .ro))))) out3_5), (6, .dat (.int .i64) .ro i3_6)])
theorem at3_ (d : D.Dispatcher) (steps : Int) (Q : D.Dispatcher → Prop) (out3_5 : D.Dispatcher) (i3_6 : Int) (h :
  cnd (decide (i3_6 < steps))
   (spec_l12Step.call out3_5 (fun r1 =>
     ((-9223372036854775808 : Int) ≤ (i3_6 + 1) ∧ (i3_6 + 1) ≤ 9223372036854775807) ∧
     at3 d steps Q r1 (i3_6 + 1)))
   (Q out3_5)) : at3 d steps Q out3_5 i3_6 :=
  Run.fml al cuts Try.f173 sg (fun r o => Q r.1) (todoOf Try.f173 3) (envOf 17 [(1, .dat (.int .i64) .ro steps), (4, .box D.tDispatcher (.pair .ro (.pair .ro (.pair .ro (.pair (.own 60 .ro) (.own 132 .ro))))) (0, (0, (0, (([] : List (D.Job)), ([] : List (D.Task))))))), (5, .box D.tDispatcher (.pair .ro (.pair .ro (.pair .ro (.pair (.own 60 .ro) (.own 132 .ro))))) out3_5), (6, .dat (.int .i64) .ro i3_6)]) tOk sOk hm h (by kernel_rfl)
theorem call_ (d : D.Dispatcher) (steps : Int) (Q : D.Dispatcher → Prop) (h :
  spec_l12Own.call d (fun r1 =>
   at3 d steps Q r1 0)) : call d steps Q :=
  CallsT.fml al cuts Try.f173 sg (d, steps, true) (fun r o => Q r.1) tOk sOk hm Try.func173 (by kernel_rfl) h (by kernel_rfl)

end spec_l12Run
namespace spec_l12Cancel
def T : Tab := [(56, ti56), (39, ti39), (3, ti3), (54, ti54), (132, ti132)]
theorem tOk : TabOk P T := .cons ok56 (.cons ok39 (.cons ok3 (.cons ok54 (.cons ok132 (.nil)))))
def S : SigTab := [((118, []), spec_l12Own.sg)]
theorem sOk : SigOk P S := .cons fn118 (.nil)
def al : List Nat := []
def cuts : Cuts := [(4, [(1, none), (4, none), (5, none), (6, none)])]
def at4 (d : D.Dispatcher) (job : Int) (Q : D.Dispatcher → Prop) (out4_5 : D.Dispatcher) (i4_6 : Int) : Prop := Run P Try.f174 sg (fun r o => Q r.1) (todoOf Try.f174 4) (envOf 50 [(1, .dat (.int .i64) .ro job), (4, .box D.tDispatcher (.pair .ro (.pair .ro (.pair .ro (.pair (.own 60 .ro) (.own 132 .ro))))) (0, (0, (0, (([] : List (D.Job)), ([] : List (D.Task))))))), (5, .box D.tDispatcher (.pair .ro (.pair .ro (.pair .ro (.pair (.own 60 .ro) (.own 132 .ro))))) out4_5), (6, .dat (.int .i64) .ro i4_6)])
theorem at4_ (d : D.Dispatcher) (job : Int) (Q : D.Dispatcher → Prop) (out4_5 : D.Dispatcher) (i4_6 : Int) (h :
  (((List.length out4_5.2.2.2.2) ≤ 281474976710656) →
  cnd (decide (i4_6 < (((List.length out4_5.2.2.2.2) : Nat) : Int)))
   (((0 : Int) ≤ i4_6 ∧ i4_6 < (((List.length out4_5.2.2.2.2) : Nat) : Int)) ∧
    cnd (decide (job < (List.getD out4_5.2.2.2.2 (0 + (Int.toNat i4_6)) (0, (0, 0))).1))
     (((0 : Int) ≤ i4_6 ∧ i4_6 < (((List.length out4_5.2.2.2.2) : Nat) : Int)) ∧
      ((-9223372036854775808 : Int) ≤ ((List.getD out4_5.2.2.2.2 (0 + (Int.toNat i4_6)) (0, (0, 0))).1 - 1) ∧ ((List.getD out4_5.2.2.2.2 (0 + (Int.toNat i4_6)) (0, (0, 0))).1 - 1) ≤ 9223372036854775807) ∧
      ((0 : Int) ≤ i4_6 ∧ i4_6 < (((List.length out4_5.2.2.2.2) : Nat) : Int)) ∧
      ((-9223372036854775808 : Int) ≤ (i4_6 + 1) ∧ (i4_6 + 1) ≤ 9223372036854775807) ∧
      at4 d job Q (out4_5.1, (out4_5.2.1, (out4_5.2.2.1, (out4_5.2.2.2.1, (List.set out4_5.2.2.2.2 (0 + (Int.toNat i4_6)) (((List.getD out4_5.2.2.2.2 (0 + (Int.toNat i4_6)) (0, (0, 0))).1 - 1), (List.getD out4_5.2.2.2.2 (0 + (Int.toNat i4_6)) (0, (0, 0))).2)))))) (i4_6 + 1))
     (((-9223372036854775808 : Int) ≤ (i4_6 + 1) ∧ (i4_6 + 1) ≤ 9223372036854775807) ∧
      at4 d job Q out4_5 (i4_6 + 1)))
   (Q out4_5))) : at4 d job Q out4_5 i4_6 :=
  Run.fml al cuts Try.f174 sg (fun r o => Q r.1) (todoOf Try.f174 4) (envOf 50 [(1, .dat (.int .i64) .ro job), (4, .box D.tDispatcher (.pair .ro (.pair .ro (.pair .ro (.pair (.own 60 .ro) (.own 132 .ro))))) (0, (0, (0, (([] : List (D.Job)), ([] : List (D.Task))))))), (5, .box D.tDispatcher (.pair .ro (.pair .ro (.pair .ro (.pair (.own 60 .ro) (.own 132 .ro))))) out4_5), (6, .dat (.int .i64) .ro i4_6)]) tOk sOk hm h (by kernel_rfl)
theorem call_ (d : D.Dispatcher) (job : Int) (Q : D.Dispatcher → Prop) (h :
  spec_l12Own.call d (fun r1 =>
   ((0 : Int) ≤ 0 ∧ 0 ≤ job ∧ job ≤ (((List.length d.2.2.2.1) : Nat) : Int)) ∧
   ((List.length ([] : List (D.Job))) + (List.length (List.drop (Int.toNat 0) (List.take (Int.toNat job) d.2.2.2.1))) ≤ 4294967296) ∧
   ((-9223372036854775808 : Int) ≤ (job + 1) ∧ (job + 1) ≤ 9223372036854775807) ∧
   ((0 : Int) ≤ (job + 1) ∧ (job + 1) ≤ (((List.length d.2.2.2.1) : Nat) : Int) ∧ (((List.length d.2.2.2.1) : Nat) : Int) ≤ (((List.length d.2.2.2.1) : Nat) : Int)) ∧
   ((List.length (([] : List (D.Job)) ++ (List.drop (Int.toNat 0) (List.take (Int.toNat job) d.2.2.2.1)))) + (List.length (List.drop (Int.toNat (job + 1)) d.2.2.2.1)) ≤ 4294967296) ∧
   at4 d job Q (r1.1, (r1.2.1, (r1.2.2.1, (((([] : List (D.Job)) ++ (List.drop (Int.toNat 0) (List.take (Int.toNat job) d.2.2.2.1))) ++ (List.drop (Int.toNat (job + 1)) d.2.2.2.1)), r1.2.2.2.2)))) 0)) : call d job Q :=
  CallsT.fml al cuts Try.f174 sg (d, job, true) (fun r o => Q r.1) tOk sOk hm Try.func174 (by kernel_rfl) h (by kernel_rfl)

end spec_l12Cancel
end Go.Vm
