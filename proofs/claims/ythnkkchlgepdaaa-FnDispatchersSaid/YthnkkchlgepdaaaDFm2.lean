/- Formulas of functions. Written by a program of this work out of the evaluator Vm. No condition. -/
import Derived.Test.YthnkkchlgepdaaaDSg
import Derived.KernelRfl
namespace Go.Vm
open Go.Proofs
set_option linter.unusedVariables false
set_option maxRecDepth 100000
namespace spec_l1Cur_pick
def T : Tab := [(3, ti3)]
theorem tOk : TabOk P T := .cons ok3 (.nil)
def S : SigTab := [((156, []), spec_l1Cur_next.sg), ((156, [1000000]), spec_l1Cur_next_o.sg)]
theorem sOk : SigOk P S := .cons fn156 (.cons fn156 (.nil))
def al : List Nat := []
def cuts : Cuts := []
theorem call_ (c : D.L2Search) (n : Int) (Q : Int → D.L2Search → Prop) (h :
  cnd (decide (n ≤ 1))
   (Q 0 c)
   (spec_l1Cur_next.call c (fun r1 o2 =>
     cnd (decide (200 < n))
      (((-9223372036854775808 : Int) ≤ (r1 * 256) ∧ (r1 * 256) ≤ 9223372036854775807) ∧
       spec_l1Cur_next.call o2 (fun r3 o4 =>
        ((-9223372036854775808 : Int) ≤ ((r1 * 256) + r3) ∧ ((r1 * 256) + r3) ≤ 9223372036854775807) ∧
        ((n : Int) ≠ 0) ∧
        Q (Int.tmod ((r1 * 256) + r3) n) o4))
      (((n : Int) ≠ 0) ∧
       Q (Int.tmod r1 n) o2)))) : call c n Q :=
  CallsT.fml al cuts Try.f91 sg (c, n, true) (fun r o => Q r.1 o.1) tOk sOk hm Try.func91 (by kernel_rfl) h (by kernel_rfl)

end spec_l1Cur_pick
namespace spec_l1Cur_pick_o
def T : Tab := [(3, ti3)]
theorem tOk : TabOk P T := .cons ok3 (.nil)
def S : SigTab := [((156, []), spec_l1Cur_next.sg), ((156, [1000000]), spec_l1Cur_next_o.sg)]
theorem sOk : SigOk P S := .cons fn156 (.cons fn156 (.nil))
def al : List Nat := []
def cuts : Cuts := []
theorem call_ (c : D.L2Search) (n : Int) (Q : Int → D.L2Search → Prop) (h :
  cnd (decide (n ≤ 1))
   (Q 0 c)
   (spec_l1Cur_next_o.call c (fun r1 o2 =>
     cnd (decide (200 < n))
      (((-9223372036854775808 : Int) ≤ (r1 * 256) ∧ (r1 * 256) ≤ 9223372036854775807) ∧
       spec_l1Cur_next_o.call o2 (fun r3 o4 =>
        ((-9223372036854775808 : Int) ≤ ((r1 * 256) + r3) ∧ ((r1 * 256) + r3) ≤ 9223372036854775807) ∧
        ((n : Int) ≠ 0) ∧
        Q (Int.tmod ((r1 * 256) + r3) n) o4))
      (((n : Int) ≠ 0) ∧
       Q (Int.tmod r1 n) o2)))) : call c n Q :=
  CallsT.fml al cuts Try.f91 sg (c, n, true) (fun r o => Q r.1 o.1) tOk sOk hm Try.func91 (by kernel_rfl) h (by kernel_rfl)

end spec_l1Cur_pick_o
namespace spec_l12Good
def T : Tab := [(56, ti56), (3, ti3), (39, ti39)]
theorem tOk : TabOk P T := .cons ok56 (.cons ok3 (.cons ok39 (.nil)))
def S : SigTab := [((95, []), spec_l1In.sg), ((102, []), spec_l2Good.sg), ((166, []), spec_l12Tasks.sg)]
theorem sOk : SigOk P S := .cons fn95 (.cons fn102 (.cons fn166 (.nil)))
def al : List Nat := []
def cuts : Cuts := []
theorem call_ (d : D.Dispatcher) (Q : Bool → Prop) (h :
  spec_l1In.call d.1 1 4 (fun r1 =>
   cnd r1
    (spec_l1In.call d.2.1 1 4 (fun r2 =>
      cnd (cond true r2 false)
       (spec_l1In.call d.2.2.1 0 1000 (fun r3 =>
         cnd (cond true r3 false)
          (spec_l2Good.call d.2.2.2.1 (fun r4 =>
            cnd (cond true r4 false)
             (spec_l12Tasks.call d (fun r5 =>
               Q (cond true r5 false)))
             (Q false)))
          (Q false)))
       (Q false)))
    (Q false))) : call d Q :=
  CallsT.fml al cuts Try.f112 sg (d, true) (fun r o => Q r.1) tOk sOk hm Try.func112 (by kernel_rfl) h (by kernel_rfl)

end spec_l12Good
namespace spec_l1Cur_dispatcher_o
def T : Tab := [(56, ti56), (25, ti25), (3, ti3), (62, ti62), (54, ti54), (132, ti132), (39, ti39)]
theorem tOk : TabOk P T := .cons ok56 (.cons ok25 (.cons ok3 (.cons ok62 (.cons ok54 (.cons ok132 (.cons ok39 (.nil)))))))
def S : SigTab := [((87, []), spec_l1Cur_among.sg), ((87, [1000000]), spec_l1Cur_among_o.sg), ((91, []), spec_l1Cur_pick.sg), ((91, [1000000]), spec_l1Cur_pick_o.sg), ((114, []), spec_l1Cur_act12.sg), ((114, [1000000]), spec_l1Cur_act12_o.sg), ((116, []), spec_l12Act.sg), ((167, []), spec_l1Most.sg)]
theorem sOk : SigOk P S := .cons fn87 (.cons fn87 (.cons fn91 (.cons fn91 (.cons fn114 (.cons fn114 (.cons fn116 (.cons fn167 (.nil))))))))
def al : List Nat := []
def cuts : Cuts := [(3, [(0, none), (2, none), (3, none), (4, none)])]
def at3 (c : D.L2Search) (Q : D.Dispatcher → D.L2Search → Prop) (c3_0 : D.L2Search) (d3_3 : D.Dispatcher) (k3_4 : Int) : Prop := Run P Try.f113 sg (fun r o => Q r.1 o.1) (todoOf Try.f113 3) (envOf 127 [(0, .box D.tL1Cur (.pair (.own 5 .ro) .ro) c3_0), (2, .box D.tDispatcher (.pair .ro (.pair .ro (.pair .ro (.pair (.own 60 .ro) (.own 132 .ro))))) (0, (0, (0, (([] : List (D.Job)), ([] : List (D.Task))))))), (3, .box D.tDispatcher (.pair .ro (.pair .ro (.pair .ro (.pair (.own 60 .ro) (.own 132 .ro))))) d3_3), (4, .dat (.int .i64) .ro k3_4)])
theorem at3_ (c : D.L2Search) (Q : D.Dispatcher → D.L2Search → Prop) (c3_0 : D.L2Search) (d3_3 : D.Dispatcher) (k3_4 : Int) (h :
  cnd (decide (0 < k3_4))
   (spec_l1Cur_act12_o.call c3_0 d3_3 (fun r1 o2 =>
     spec_l12Act.call d3_3 r1 (fun r3 r4 =>
      cnd r4
       (((-9223372036854775808 : Int) ≤ (k3_4 - 1) ∧ (k3_4 - 1) ≤ 9223372036854775807) ∧
        at3 c Q o2 r3 (k3_4 - 1))
       (((-9223372036854775808 : Int) ≤ (k3_4 - 1) ∧ (k3_4 - 1) ≤ 9223372036854775807) ∧
        at3 c Q o2 d3_3 (k3_4 - 1)))))
   ((((List.length d3_3.2.2.2.2) ≤ 281474976710656) →
    spec_l1Most.call 1 (((List.length d3_3.2.2.2.2) : Nat) : Int) (fun r5 =>
     spec_l1Cur_pick_o.call c3_0 r5 (fun r6 o7 =>
      spec_l1Cur_pick_o.call o7 48 (fun r8 o9 =>
       cnd (decide (r8 = 0))
        (spec_l1Cur_among_o.call o9 [0, 1, 5] (fun r10 o11 =>
          Q (r10, d3_3.2) o11))
        (cnd (decide (r8 = 1))
          (spec_l1Cur_among_o.call o9 [0, 5] (fun r12 o13 =>
            Q (d3_3.1, (r12, d3_3.2.2)) o13))
          (cnd (decide (r8 = 2))
            (spec_l1Cur_among_o.call o9 [(-1), 0, 1000, 1001] (fun r14 o15 =>
              Q (d3_3.1, (d3_3.2.1, (r14, d3_3.2.2.2))) o15))
            (cnd (decide (r8 = 3))
              ((((List.length d3_3.2.2.2.2) ≤ 281474976710656) →
               cnd (decide (0 < (((List.length d3_3.2.2.2.2) : Nat) : Int)))
                (((0 : Int) ≤ r6 ∧ r6 < (((List.length d3_3.2.2.2.2) : Nat) : Int)) ∧
                 spec_l1Cur_pick_o.call o9 5 (fun r16 o17 =>
                  ((-9223372036854775808 : Int) ≤ ((List.getD d3_3.2.2.2.2 (0 + (Int.toNat r6)) (0, (0, 0))).2.2 + r16) ∧ ((List.getD d3_3.2.2.2.2 (0 + (Int.toNat r6)) (0, (0, 0))).2.2 + r16) ≤ 9223372036854775807) ∧
                  ((-9223372036854775808 : Int) ≤ (((List.getD d3_3.2.2.2.2 (0 + (Int.toNat r6)) (0, (0, 0))).2.2 + r16) - 2) ∧ (((List.getD d3_3.2.2.2.2 (0 + (Int.toNat r6)) (0, (0, 0))).2.2 + r16) - 2) ≤ 9223372036854775807) ∧
                  ((0 : Int) ≤ r6 ∧ r6 < (((List.length d3_3.2.2.2.2) : Nat) : Int)) ∧
                  Q (d3_3.1, (d3_3.2.1, (d3_3.2.2.1, (d3_3.2.2.2.1, (List.set d3_3.2.2.2.2 (0 + (Int.toNat r6)) ((List.getD d3_3.2.2.2.2 (0 + (Int.toNat r6)) (0, (0, 0))).1, ((List.getD d3_3.2.2.2.2 (0 + (Int.toNat r6)) (0, (0, 0))).2.1, (((List.getD d3_3.2.2.2.2 (0 + (Int.toNat r6)) (0, (0, 0))).2.2 + r16) - 2)))))))) o17))
                (Q d3_3 o9)))
              (cnd (decide (r8 = 4))
                ((((List.length d3_3.2.2.2.2) ≤ 281474976710656) →
                 cnd (decide (0 < (((List.length d3_3.2.2.2.2) : Nat) : Int)))
                  (spec_l1Cur_pick_o.call o9 5 (fun r18 o19 =>
                    ((-9223372036854775808 : Int) ≤ (r18 - 1) ∧ (r18 - 1) ≤ 9223372036854775807) ∧
                    ((0 : Int) ≤ r6 ∧ r6 < (((List.length d3_3.2.2.2.2) : Nat) : Int)) ∧
                    Q (d3_3.1, (d3_3.2.1, (d3_3.2.2.1, (d3_3.2.2.2.1, (List.set d3_3.2.2.2.2 (0 + (Int.toNat r6)) ((List.getD d3_3.2.2.2.2 (0 + (Int.toNat r6)) (0, (0, 0))).1, ((r18 - 1), (List.getD d3_3.2.2.2.2 (0 + (Int.toNat r6)) (0, (0, 0))).2.2))))))) o19))
                  (Q d3_3 o9)))
                (cnd (decide (r8 = 5))
                  ((((List.length d3_3.2.2.2.2) ≤ 281474976710656) →
                   cnd (decide (0 < (((List.length d3_3.2.2.2.2) : Nat) : Int)))
                    (((0 : Int) ≤ r6 ∧ r6 < (((List.length d3_3.2.2.2.2) : Nat) : Int)) ∧
                     ((List.length d3_3.2.2.2.2) + (List.length [(List.getD d3_3.2.2.2.2 (0 + (Int.toNat r6)) (0, (0, 0)))]) ≤ 4294967296) ∧
                     Q (d3_3.1, (d3_3.2.1, (d3_3.2.2.1, (d3_3.2.2.2.1, (d3_3.2.2.2.2 ++ [(List.getD d3_3.2.2.2.2 (0 + (Int.toNat r6)) (0, (0, 0)))]))))) o9)
                    (Q d3_3 o9)))
                  (cnd (decide (r8 = 6))
                    ((((List.length d3_3.2.2.2.2) ≤ 281474976710656) →
                     cnd (decide (0 < (((List.length d3_3.2.2.2.2) : Nat) : Int)))
                      (((-9223372036854775808 : Int) ≤ ((((List.length d3_3.2.2.2.1) : Nat) : Int) + 2) ∧ ((((List.length d3_3.2.2.2.1) : Nat) : Int) + 2) ≤ 9223372036854775807) ∧
                       spec_l1Cur_pick_o.call o9 ((((List.length d3_3.2.2.2.1) : Nat) : Int) + 2) (fun r20 o21 =>
                        ((-9223372036854775808 : Int) ≤ (r20 - 1) ∧ (r20 - 1) ≤ 9223372036854775807) ∧
                        ((0 : Int) ≤ r6 ∧ r6 < (((List.length d3_3.2.2.2.2) : Nat) : Int)) ∧
                        (((List.length d3_3.2.2.2.1) ≤ 281474976710656) →
                        Q (d3_3.1, (d3_3.2.1, (d3_3.2.2.1, (d3_3.2.2.2.1, (List.set d3_3.2.2.2.2 (0 + (Int.toNat r6)) ((r20 - 1), (List.getD d3_3.2.2.2.2 (0 + (Int.toNat r6)) (0, (0, 0))).2)))))) o21)))
                      (Q d3_3 o9)))
                    (Q d3_3 o9))))))))))))) : at3 c Q c3_0 d3_3 k3_4 :=
  Run.fml al cuts Try.f113 sg (fun r o => Q r.1 o.1) (todoOf Try.f113 3) (envOf 127 [(0, .box D.tL1Cur (.pair (.own 5 .ro) .ro) c3_0), (2, .box D.tDispatcher (.pair .ro (.pair .ro (.pair .ro (.pair (.own 60 .ro) (.own 132 .ro))))) (0, (0, (0, (([] : List (D.Job)), ([] : List (D.Task))))))), (3, .box D.tDispatcher (.pair .ro (.pair .ro (.pair .ro (.pair (.own 60 .ro) (.own 132 .ro))))) d3_3), (4, .dat (.int .i64) .ro k3_4)]) tOk sOk hm h (by kernel_rfl)
theorem call_ (c : D.L2Search) (Q : D.Dispatcher → D.L2Search → Prop) (h :
  spec_l1Cur_among_o.call c [1, 1, 2, 3, 4] (fun r1 o2 =>
   spec_l1Cur_pick_o.call o2 4 (fun r3 o4 =>
    ((-9223372036854775808 : Int) ≤ (1 + r3) ∧ (1 + r3) ≤ 9223372036854775807) ∧
    spec_l1Cur_pick_o.call o4 12 (fun r5 o6 =>
     at3 c Q o6 (r1, ((1 + r3), (0, (([] : List (D.Job)), ([] : List (D.Task)))))) r5)))) : call c Q :=
  CallsT.fml al cuts Try.f113 sg (c, true) (fun r o => Q r.1 o.1) tOk sOk hm Try.func113 (by kernel_rfl) h (by kernel_rfl)

end spec_l1Cur_dispatcher_o
namespace spec_l1Cur_act12
def T : Tab := [(56, ti56), (62, ti62), (25, ti25), (3, ti3), (60, ti60), (39, ti39)]
theorem tOk : TabOk P T := .cons ok56 (.cons ok62 (.cons ok25 (.cons ok3 (.cons ok60 (.cons ok39 (.nil))))))
def S : SigTab := [((87, []), spec_l1Cur_among.sg), ((87, [1000000]), spec_l1Cur_among_o.sg), ((168, []), spec_l1Cur_job12.sg), ((168, [1000000]), spec_l1Cur_job12_o.sg), ((91, []), spec_l1Cur_pick.sg), ((91, [1000000]), spec_l1Cur_pick_o.sg), ((167, []), spec_l1Most.sg)]
theorem sOk : SigOk P S := .cons fn87 (.cons fn87 (.cons fn168 (.cons fn168 (.cons fn91 (.cons fn91 (.cons fn167 (.nil)))))))
def al : List Nat := []
def cuts : Cuts := []
theorem call_ (c : D.L2Search) (d : D.Dispatcher) (Q : D.Act → D.L2Search → Prop) (h :
  spec_l1Cur_among.call c [1, 1, 1, 1, 2, 2, 2, 3, 4, 5, 6, 7] (fun r1 o2 =>
   cnd (decide (r1 = 1))
    (spec_l1Cur_job12.call o2 d.2.2.1 (fun r3 o4 =>
      spec_l1Cur_pick.call o4 40 (fun r5 o6 =>
       cnd (decide (r5 = 0))
        (spec_l1Cur_among.call o6 [(-1), 9, 1001, 4611686018427387904] (fun r7 o8 =>
          Q (r1, (r7, (0, r3))) o8))
        (cnd (decide (r5 = 1))
          (spec_l1Cur_among.call o6 [1, (-1)] (fun r9 o10 =>
            Q (r1, (0, (r9, r3))) o10))
          (cnd (decide (r5 = 2))
            (spec_l1Cur_among.call o6 [0, 8, (-1)] (fun r11 o12 =>
              Q (r11, (0, (0, r3))) o12))
            (cnd (decide (r5 = 3))
              (Q (r1, (0, (0, (r3.1, (r3.2.1, (r3.2.2.1, 1)))))) o6)
              (Q (r1, (0, (0, r3))) o6)))))))
    (cnd (decide (r1 = 2))
      (spec_l1Cur_among.call o2 [1, 2, 3, 5, 9, 0] (fun r13 o14 =>
        spec_l1Cur_pick.call o14 40 (fun r15 o16 =>
         cnd (decide (r15 = 0))
          (spec_l1Cur_among.call o16 [(-1), 9, 1001, 4611686018427387904] (fun r17 o18 =>
            Q (r1, (r17, (0, (0, (0, (0, 0)))))) o18))
          (cnd (decide (r15 = 1))
            (spec_l1Cur_among.call o16 [1, (-1)] (fun r19 o20 =>
              Q (r1, (r13, (r19, (0, (0, (0, 0)))))) o20))
            (cnd (decide (r15 = 2))
              (spec_l1Cur_among.call o16 [0, 8, (-1)] (fun r21 o22 =>
                Q (r21, (r13, (0, (0, (0, (0, 0)))))) o22))
              (cnd (decide (r15 = 3))
                (Q (r1, (r13, (0, (0, (0, (0, 1)))))) o16)
                (Q (r1, (r13, (0, (0, (0, (0, 0)))))) o16)))))))
      (cnd (decide (r1 = 3))
        (spec_l1Cur_pick.call o2 6 (fun r23 o24 =>
          spec_l1Cur_pick.call o24 40 (fun r25 o26 =>
           cnd (decide (r25 = 0))
            (spec_l1Cur_among.call o26 [(-1), 9, 1001, 4611686018427387904] (fun r27 o28 =>
              Q (r1, (r27, (0, (0, (0, (0, 0)))))) o28))
            (cnd (decide (r25 = 1))
              (spec_l1Cur_among.call o26 [1, (-1)] (fun r29 o30 =>
                Q (r1, (r23, (r29, (0, (0, (0, 0)))))) o30))
              (cnd (decide (r25 = 2))
                (spec_l1Cur_among.call o26 [0, 8, (-1)] (fun r31 o32 =>
                  Q (r31, (r23, (0, (0, (0, (0, 0)))))) o32))
                (cnd (decide (r25 = 3))
                  (Q (r1, (r23, (0, (0, (0, (0, 1)))))) o26)
                  (Q (r1, (r23, (0, (0, (0, (0, 0)))))) o26)))))))
        (cnd (decide (r1 = 4))
          ((((List.length d.2.2.2.1) ≤ 281474976710656) →
           spec_l1Most.call 1 (((List.length d.2.2.2.1) : Nat) : Int) (fun r33 =>
            spec_l1Cur_pick.call o2 r33 (fun r34 o35 =>
             spec_l1Cur_pick.call o35 40 (fun r36 o37 =>
              cnd (decide (r36 = 0))
               (spec_l1Cur_among.call o37 [(-1), 9, 1001, 4611686018427387904] (fun r38 o39 =>
                 Q (r1, (r38, (0, (0, (0, (0, 0)))))) o39))
               (cnd (decide (r36 = 1))
                 (spec_l1Cur_among.call o37 [1, (-1)] (fun r40 o41 =>
                   Q (r1, (r34, (r40, (0, (0, (0, 0)))))) o41))
                 (cnd (decide (r36 = 2))
                   (spec_l1Cur_among.call o37 [0, 8, (-1)] (fun r42 o43 =>
                     Q (r42, (r34, (0, (0, (0, (0, 0)))))) o43))
                   (cnd (decide (r36 = 3))
                     (Q (r1, (r34, (0, (0, (0, (0, 1)))))) o37)
                     (Q (r1, (r34, (0, (0, (0, (0, 0)))))) o37)))))))))
          (cnd (decide (r1 = 5))
            ((((List.length d.2.2.2.1) ≤ 281474976710656) →
             spec_l1Most.call 1 (((List.length d.2.2.2.1) : Nat) : Int) (fun r44 =>
              spec_l1Cur_pick.call o2 r44 (fun r45 o46 =>
               spec_l1Cur_among.call o46 [0, 5, 20, 500, 501] (fun r47 o48 =>
                spec_l1Cur_pick.call o48 40 (fun r49 o50 =>
                 cnd (decide (r49 = 0))
                  (spec_l1Cur_among.call o50 [(-1), 9, 1001, 4611686018427387904] (fun r51 o52 =>
                    Q (r1, (r51, (r47, (0, (0, (0, 0)))))) o52))
                  (cnd (decide (r49 = 1))
                    (spec_l1Cur_among.call o50 [1, (-1)] (fun r53 o54 =>
                      Q (r1, (r45, (r53, (0, (0, (0, 0)))))) o54))
                    (cnd (decide (r49 = 2))
                      (spec_l1Cur_among.call o50 [0, 8, (-1)] (fun r55 o56 =>
                        Q (r55, (r45, (r47, (0, (0, (0, 0)))))) o56))
                      (cnd (decide (r49 = 3))
                        (Q (r1, (r45, (r47, (0, (0, (0, 1)))))) o50)
                        (Q (r1, (r45, (r47, (0, (0, (0, 0)))))) o50))))))))))
            (spec_l1Cur_pick.call o2 40 (fun r57 o58 =>
              cnd (decide (r57 = 0))
               (spec_l1Cur_among.call o58 [(-1), 9, 1001, 4611686018427387904] (fun r59 o60 =>
                 Q (r1, (r59, (0, (0, (0, (0, 0)))))) o60))
               (cnd (decide (r57 = 1))
                 (spec_l1Cur_among.call o58 [1, (-1)] (fun r61 o62 =>
                   Q (r1, (0, (r61, (0, (0, (0, 0)))))) o62))
                 (cnd (decide (r57 = 2))
                   (spec_l1Cur_among.call o58 [0, 8, (-1)] (fun r63 o64 =>
                     Q (r63, (0, (0, (0, (0, (0, 0)))))) o64))
                   (cnd (decide (r57 = 3))
                     (Q (r1, (0, (0, (0, (0, (0, 1)))))) o58)
                     (Q (r1, (0, (0, (0, (0, (0, 0)))))) o58)))))))))))) : call c d Q :=
  CallsT.fml al cuts Try.f114 sg (c, d, true) (fun r o => Q r.1 o.1) tOk sOk hm Try.func114 (by kernel_rfl) h (by kernel_rfl)

end spec_l1Cur_act12
namespace spec_l1Cur_act12_o
def T : Tab := [(56, ti56), (62, ti62), (25, ti25), (3, ti3), (60, ti60), (39, ti39)]
theorem tOk : TabOk P T := .cons ok56 (.cons ok62 (.cons ok25 (.cons ok3 (.cons ok60 (.cons ok39 (.nil))))))
def S : SigTab := [((87, []), spec_l1Cur_among.sg), ((87, [1000000]), spec_l1Cur_among_o.sg), ((168, []), spec_l1Cur_job12.sg), ((168, [1000000]), spec_l1Cur_job12_o.sg), ((91, []), spec_l1Cur_pick.sg), ((91, [1000000]), spec_l1Cur_pick_o.sg), ((167, []), spec_l1Most.sg)]
theorem sOk : SigOk P S := .cons fn87 (.cons fn87 (.cons fn168 (.cons fn168 (.cons fn91 (.cons fn91 (.cons fn167 (.nil)))))))
def al : List Nat := []
def cuts : Cuts := []
theorem call_ (c : D.L2Search) (d : D.Dispatcher) (Q : D.Act → D.L2Search → Prop) (h :
  spec_l1Cur_among_o.call c [1, 1, 1, 1, 2, 2, 2, 3, 4, 5, 6, 7] (fun r1 o2 =>
   cnd (decide (r1 = 1))
    (spec_l1Cur_job12_o.call o2 d.2.2.1 (fun r3 o4 =>
      spec_l1Cur_pick_o.call o4 40 (fun r5 o6 =>
       cnd (decide (r5 = 0))
        (spec_l1Cur_among_o.call o6 [(-1), 9, 1001, 4611686018427387904] (fun r7 o8 =>
          Q (r1, (r7, (0, r3))) o8))
        (cnd (decide (r5 = 1))
          (spec_l1Cur_among_o.call o6 [1, (-1)] (fun r9 o10 =>
            Q (r1, (0, (r9, r3))) o10))
          (cnd (decide (r5 = 2))
            (spec_l1Cur_among_o.call o6 [0, 8, (-1)] (fun r11 o12 =>
              Q (r11, (0, (0, r3))) o12))
            (cnd (decide (r5 = 3))
              (Q (r1, (0, (0, (r3.1, (r3.2.1, (r3.2.2.1, 1)))))) o6)
              (Q (r1, (0, (0, r3))) o6)))))))
    (cnd (decide (r1 = 2))
      (spec_l1Cur_among_o.call o2 [1, 2, 3, 5, 9, 0] (fun r13 o14 =>
        spec_l1Cur_pick_o.call o14 40 (fun r15 o16 =>
         cnd (decide (r15 = 0))
          (spec_l1Cur_among_o.call o16 [(-1), 9, 1001, 4611686018427387904] (fun r17 o18 =>
            Q (r1, (r17, (0, (0, (0, (0, 0)))))) o18))
          (cnd (decide (r15 = 1))
            (spec_l1Cur_among_o.call o16 [1, (-1)] (fun r19 o20 =>
              Q (r1, (r13, (r19, (0, (0, (0, 0)))))) o20))
            (cnd (decide (r15 = 2))
              (spec_l1Cur_among_o.call o16 [0, 8, (-1)] (fun r21 o22 =>
                Q (r21, (r13, (0, (0, (0, (0, 0)))))) o22))
              (cnd (decide (r15 = 3))
                (Q (r1, (r13, (0, (0, (0, (0, 1)))))) o16)
                (Q (r1, (r13, (0, (0, (0, (0, 0)))))) o16)))))))
      (cnd (decide (r1 = 3))
        (spec_l1Cur_pick_o.call o2 6 (fun r23 o24 =>
          spec_l1Cur_pick_o.call o24 40 (fun r25 o26 =>
           cnd (decide (r25 = 0))
            (spec_l1Cur_among_o.call o26 [(-1), 9, 1001, 4611686018427387904] (fun r27 o28 =>
              Q (r1, (r27, (0, (0, (0, (0, 0)))))) o28))
            (cnd (decide (r25 = 1))
              (spec_l1Cur_among_o.call o26 [1, (-1)] (fun r29 o30 =>
                Q (r1, (r23, (r29, (0, (0, (0, 0)))))) o30))
              (cnd (decide (r25 = 2))
                (spec_l1Cur_among_o.call o26 [0, 8, (-1)] (fun r31 o32 =>
                  Q (r31, (r23, (0, (0, (0, (0, 0)))))) o32))
                (cnd (decide (r25 = 3))
                  (Q (r1, (r23, (0, (0, (0, (0, 1)))))) o26)
                  (Q (r1, (r23, (0, (0, (0, (0, 0)))))) o26)))))))
        (cnd (decide (r1 = 4))
          ((((List.length d.2.2.2.1) ≤ 281474976710656) →
           spec_l1Most.call 1 (((List.length d.2.2.2.1) : Nat) : Int) (fun r33 =>
            spec_l1Cur_pick_o.call o2 r33 (fun r34 o35 =>
             spec_l1Cur_pick_o.call o35 40 (fun r36 o37 =>
              cnd (decide (r36 = 0))
               (spec_l1Cur_among_o.call o37 [(-1), 9, 1001, 4611686018427387904] (fun r38 o39 =>
                 Q (r1, (r38, (0, (0, (0, (0, 0)))))) o39))
               (cnd (decide (r36 = 1))
                 (spec_l1Cur_among_o.call o37 [1, (-1)] (fun r40 o41 =>
                   Q (r1, (r34, (r40, (0, (0, (0, 0)))))) o41))
                 (cnd (decide (r36 = 2))
                   (spec_l1Cur_among_o.call o37 [0, 8, (-1)] (fun r42 o43 =>
                     Q (r42, (r34, (0, (0, (0, (0, 0)))))) o43))
                   (cnd (decide (r36 = 3))
                     (Q (r1, (r34, (0, (0, (0, (0, 1)))))) o37)
                     (Q (r1, (r34, (0, (0, (0, (0, 0)))))) o37)))))))))
          (cnd (decide (r1 = 5))
            ((((List.length d.2.2.2.1) ≤ 281474976710656) →
             spec_l1Most.call 1 (((List.length d.2.2.2.1) : Nat) : Int) (fun r44 =>
              spec_l1Cur_pick_o.call o2 r44 (fun r45 o46 =>
               spec_l1Cur_among_o.call o46 [0, 5, 20, 500, 501] (fun r47 o48 =>
                spec_l1Cur_pick_o.call o48 40 (fun r49 o50 =>
                 cnd (decide (r49 = 0))
                  (spec_l1Cur_among_o.call o50 [(-1), 9, 1001, 4611686018427387904] (fun r51 o52 =>
                    Q (r1, (r51, (r47, (0, (0, (0, 0)))))) o52))
                  (cnd (decide (r49 = 1))
                    (spec_l1Cur_among_o.call o50 [1, (-1)] (fun r53 o54 =>
                      Q (r1, (r45, (r53, (0, (0, (0, 0)))))) o54))
                    (cnd (decide (r49 = 2))
                      (spec_l1Cur_among_o.call o50 [0, 8, (-1)] (fun r55 o56 =>
                        Q (r55, (r45, (r47, (0, (0, (0, 0)))))) o56))
                      (cnd (decide (r49 = 3))
                        (Q (r1, (r45, (r47, (0, (0, (0, 1)))))) o50)
                        (Q (r1, (r45, (r47, (0, (0, (0, 0)))))) o50))))))))))
            (spec_l1Cur_pick_o.call o2 40 (fun r57 o58 =>
              cnd (decide (r57 = 0))
               (spec_l1Cur_among_o.call o58 [(-1), 9, 1001, 4611686018427387904] (fun r59 o60 =>
                 Q (r1, (r59, (0, (0, (0, (0, 0)))))) o60))
               (cnd (decide (r57 = 1))
                 (spec_l1Cur_among_o.call o58 [1, (-1)] (fun r61 o62 =>
                   Q (r1, (0, (r61, (0, (0, (0, 0)))))) o62))
                 (cnd (decide (r57 = 2))
                   (spec_l1Cur_among_o.call o58 [0, 8, (-1)] (fun r63 o64 =>
                     Q (r63, (0, (0, (0, (0, (0, 0)))))) o64))
                   (cnd (decide (r57 = 3))
                     (Q (r1, (0, (0, (0, (0, (0, 1)))))) o58)
                     (Q (r1, (0, (0, (0, (0, (0, 0)))))) o58)))))))))))) : call c d Q :=
  CallsT.fml al cuts Try.f114 sg (c, d, true) (fun r o => Q r.1 o.1) tOk sOk hm Try.func114 (by kernel_rfl) h (by kernel_rfl)

end spec_l1Cur_act12_o
namespace impl_Dispatcher_acted
def T : Tab := [(56, ti56), (62, ti62)]
theorem tOk : TabOk P T := .cons ok56 (.cons ok62 (.nil))
def S : SigTab := [((169, []), impl_Act_named.sg), ((117, []), impl_Dispatcher_own.sg), ((170, []), impl_Dispatcher_done.sg), ((47, []), impl_IsDispatcher.sg)]
theorem sOk : SigOk P S := .cons fn169 (.cons fn117 (.cons fn170 (.cons fn47 (.nil))))
def al : List Nat := []
def cuts : Cuts := []
theorem call_ (d : D.Dispatcher) (a : D.Act) (Q : D.Dispatcher → Bool → Prop) (h :
  impl_Act_named.call a (fun r1 =>
   cnd (!r1)
    (Q (0, (0, (0, (([] : List (D.Job)), ([] : List (D.Task)))))) false)
    (impl_Dispatcher_own.call d (fun r2 =>
      impl_Dispatcher_done.call r2 a (fun r3 r4 =>
       cnd (!r4)
        (Q (0, (0, (0, (([] : List (D.Job)), ([] : List (D.Task)))))) false)
        (impl_IsDispatcher.call r3 (fun r5 =>
          cnd (cond false true (!r5))
           (Q (0, (0, (0, (([] : List (D.Job)), ([] : List (D.Task)))))) false)
           (Q r3 true)))))))) : call d a Q :=
  CallsT.fml al cuts Try.f115 sg (d, a, true) (fun r o => Q r.1 r.2.1) tOk sOk hm Try.func115 (by kernel_rfl) h (by kernel_rfl)

end impl_Dispatcher_acted
namespace spec_l12Act
def T : Tab := [(56, ti56), (62, ti62), (3, ti3), (39, ti39), (60, ti60)]
theorem tOk : TabOk P T := .cons ok56 (.cons ok62 (.cons ok3 (.cons ok39 (.cons ok60 (.nil)))))
def S : SigTab := [((171, []), spec_l12Plain.sg), ((172, []), spec_l12May.sg), ((118, []), spec_l12Own.sg), ((173, []), spec_l12Run.sg), ((174, []), spec_l12Cancel.sg), ((112, []), spec_l12Good.sg)]
theorem sOk : SigOk P S := .cons fn171 (.cons fn172 (.cons fn118 (.cons fn173 (.cons fn174 (.cons fn112 (.nil))))))
def al : List Nat := []
def cuts : Cuts := []
theorem call_ (d : D.Dispatcher) (a : D.Act) (Q : D.Dispatcher → Bool → Prop) (h :
  spec_l12Plain.call a (fun r1 =>
   cnd (!r1)
    (Q (0, (0, (0, (([] : List (D.Job)), ([] : List (D.Task)))))) false)
    (spec_l12May.call d a (fun r2 =>
      cnd (cond false true (!r2))
       (Q (0, (0, (0, (([] : List (D.Job)), ([] : List (D.Task)))))) false)
       (spec_l12Own.call d (fun r3 =>
         cnd (decide (a.1 = 1))
          (((List.length r3.2.2.2.1) + (List.length [a.2.2.2]) ≤ 4294967296) ∧
           spec_l12Good.call (r3.1, (r3.2.1, (r3.2.2.1, ((r3.2.2.2.1 ++ [a.2.2.2]), r3.2.2.2.2)))) (fun r4 =>
            cnd (!r4)
             (Q (0, (0, (0, (([] : List (D.Job)), ([] : List (D.Task)))))) false)
             (Q (r3.1, (r3.2.1, (r3.2.2.1, ((r3.2.2.2.1 ++ [a.2.2.2]), r3.2.2.2.2)))) true)))
          (cnd (decide (a.1 = 2))
            (spec_l12Run.call d a.2.1 (fun r5 =>
              spec_l12Good.call r5 (fun r6 =>
               cnd (!r6)
                (Q (0, (0, (0, (([] : List (D.Job)), ([] : List (D.Task)))))) false)
                (Q r5 true))))
            (cnd (decide (a.1 = 3))
              (spec_l12Good.call (r3.1, (a.2.1, r3.2.2)) (fun r7 =>
                cnd (!r7)
                 (Q (0, (0, (0, (([] : List (D.Job)), ([] : List (D.Task)))))) false)
                 (Q (r3.1, (a.2.1, r3.2.2)) true)))
              (cnd (decide (a.1 = 4))
                (spec_l12Cancel.call d a.2.1 (fun r8 =>
                  spec_l12Good.call r8 (fun r9 =>
                   cnd (!r9)
                    (Q (0, (0, (0, (([] : List (D.Job)), ([] : List (D.Task)))))) false)
                    (Q r8 true))))
                (cnd (decide (a.1 = 5))
                  (((0 : Int) ≤ a.2.1 ∧ a.2.1 < (((List.length r3.2.2.2.1) : Nat) : Int)) ∧
                   spec_l12Good.call (r3.1, (r3.2.1, (r3.2.2.1, ((List.set r3.2.2.2.1 (0 + (Int.toNat a.2.1)) ((List.getD r3.2.2.2.1 (0 + (Int.toNat a.2.1)) (0, (0, (0, 0)))).1, ((List.getD r3.2.2.2.1 (0 + (Int.toNat a.2.1)) (0, (0, (0, 0)))).2.1, ((List.getD r3.2.2.2.1 (0 + (Int.toNat a.2.1)) (0, (0, (0, 0)))).2.2.1, a.2.2.1)))), r3.2.2.2.2)))) (fun r10 =>
                    cnd (!r10)
                     (Q (0, (0, (0, (([] : List (D.Job)), ([] : List (D.Task)))))) false)
                     (Q (r3.1, (r3.2.1, (r3.2.2.1, ((List.set r3.2.2.2.1 (0 + (Int.toNat a.2.1)) ((List.getD r3.2.2.2.1 (0 + (Int.toNat a.2.1)) (0, (0, (0, 0)))).1, ((List.getD r3.2.2.2.1 (0 + (Int.toNat a.2.1)) (0, (0, (0, 0)))).2.1, ((List.getD r3.2.2.2.1 (0 + (Int.toNat a.2.1)) (0, (0, (0, 0)))).2.2.1, a.2.2.1)))), r3.2.2.2.2)))) true)))
                  (cnd (decide (a.1 = 6))
                    (((-9223372036854775808 : Int) ≤ (r3.1 + 1) ∧ (r3.1 + 1) ≤ 9223372036854775807) ∧
                     spec_l12Good.call ((r3.1 + 1), r3.2) (fun r11 =>
                      cnd (!r11)
                       (Q (0, (0, (0, (([] : List (D.Job)), ([] : List (D.Task)))))) false)
                       (Q ((r3.1 + 1), r3.2) true)))
                    (cnd (decide (a.1 = 7))
                      (((-9223372036854775808 : Int) ≤ (r3.1 - 1) ∧ (r3.1 - 1) ≤ 9223372036854775807) ∧
                       spec_l12Good.call ((r3.1 - 1), r3.2) (fun r12 =>
                        cnd (!r12)
                         (Q (0, (0, (0, (([] : List (D.Job)), ([] : List (D.Task)))))) false)
                         (Q ((r3.1 - 1), r3.2) true)))
                      (spec_l12Good.call r3 (fun r13 =>
                        cnd (!r13)
                         (Q (0, (0, (0, (([] : List (D.Job)), ([] : List (D.Task)))))) false)
                         (Q r3 true))))))))))))))) : call d a Q :=
  CallsT.fml al cuts Try.f116 sg (d, a, true) (fun r o => Q r.1 r.2.1) tOk sOk hm Try.func116 (by kernel_rfl) h (by kernel_rfl)

end spec_l12Act
end Go.Vm
