/- Formulas of functions. Written by a program of this work out of the evaluator Vm. No condition. -/
import Derived.Test.YthnkkchlgepdaaaDSg
import Derived.KernelRfl
namespace Go.Vm
open Go.Proofs
set_option linter.unusedVariables false
set_option maxRecDepth 100000
namespace laws_FnDispatchers
def T : Tab := [(22, ti22), (3, ti3), (56, ti56), (62, ti62), (67, ti67), (4, ti4)]
theorem tOk : TabOk P T := .cons ok22 (.cons ok3 (.cons ok56 (.cons ok62 (.cons ok67 (.cons ok4 (.nil))))))
def S : SigTab := [((35, []), laws_vBig.sg), ((36, []), spec_DrawNewDispatcher.sg), ((37, []), impl_NewDispatcher.sg), ((38, []), spec_NewDispatcher.sg), ((40, []), laws_vCut.sg), ((39, []), spec_DrawActDispatcher.sg), ((41, []), impl_ActDispatcher.sg), ((42, []), spec_ActDispatcher.sg), ((43, []), spec_DrawPlayActs.sg), ((44, []), impl_PlayActs.sg), ((45, []), spec_PlayActs.sg), ((46, []), laws_vDispatcher.sg), ((47, []), impl_IsDispatcher.sg), ((48, []), spec_IsDispatcher.sg), ((49, []), laws_vAt.sg)]
theorem sOk : SigOk P S := .cons fn35 (.cons fn36 (.cons fn37 (.cons fn38 (.cons fn40 (.cons fn39 (.cons fn41 (.cons fn42 (.cons fn43 (.cons fn44 (.cons fn45 (.cons fn46 (.cons fn47 (.cons fn48 (.cons fn49 (.nil)))))))))))))))
def al : List Nat := []
def cuts : Cuts := []
theorem call_ (code : List (Int)) (Q : Bool → Prop) (h :
  laws_vBig.call code (fun r1 =>
   cnd r1
    (Q true)
    (spec_DrawNewDispatcher.call code (fun r2 r3 =>
      impl_NewDispatcher.call r2 r3 (fun r4 r5 =>
       spec_NewDispatcher.call r2 r3 (fun r6 r7 =>
        laws_vCut.call code 1 (fun r8 =>
         spec_DrawActDispatcher.call r8 (fun r9 r10 =>
          impl_ActDispatcher.call r9 r10 (fun r11 r12 =>
           spec_ActDispatcher.call r9 r10 (fun r13 r14 =>
            laws_vCut.call code 2 (fun r15 =>
             spec_DrawPlayActs.call r15 (fun r16 r17 =>
              impl_PlayActs.call r16 r17 (fun r18 r19 r20 =>
               spec_PlayActs.call r16 r17 (fun r21 r22 r23 =>
                cnd (!(r5 == r7))
                 (Q false)
                 (laws_vDispatcher.call r4 r6 (fun r24 =>
                   cnd (cond false true (!r24))
                    (Q false)
                    (cnd (cond false true (!(r12 == r14)))
                      (Q false)
                      (laws_vDispatcher.call r11 r13 (fun r25 =>
                        cnd (cond false true (!r25))
                         (Q false)
                         (cnd (cond false true (!(r20 == r23)))
                           (Q false)
                           (cnd (cond false true (decide (r19 ≠ r22)))
                             (Q false)
                             (laws_vDispatcher.call r18 r21 (fun r26 =>
                               cnd (cond false true (!r26))
                                (Q false)
                                (impl_IsDispatcher.call r9 (fun r27 =>
                                  spec_IsDispatcher.call r9 (fun r28 =>
                                   cnd (cond false true (!(r27 == r28)))
                                    (Q false)
                                    (cnd r12
                                      (impl_IsDispatcher.call r11 (fun r29 =>
                                        cnd (cond true (!r29) false)
                                         (Q false)
                                         (cnd r20
                                           (impl_IsDispatcher.call r18 (fun r30 =>
                                             cnd (cond false true (cond true (!r30) false))
                                              (Q false)
                                              (laws_vAt.call code 3 (fun r31 =>
                                                ((9 : Int) ≠ 0) ∧
                                                ((-9223372036854775808 : Int) ≤ (1 + (Int.tmod r31 9)) ∧ (1 + (Int.tmod r31 9)) ≤ 9223372036854775807) ∧
                                                laws_vAt.call code 4 (fun r32 =>
                                                 ((9 : Int) ≠ 0) ∧
                                                 ((-9223372036854775808 : Int) ≤ (1 + (Int.tmod r32 9)) ∧ (1 + (Int.tmod r32 9)) ≤ 9223372036854775807) ∧
                                                 impl_ActDispatcher.call r9 (2, ((1 + (Int.tmod r31 9)), (0, (0, (0, (0, 0)))))) (fun r33 r34 =>
                                                  impl_ActDispatcher.call r33 (2, ((1 + (Int.tmod r32 9)), (0, (0, (0, (0, 0)))))) (fun r35 r36 =>
                                                   ((-9223372036854775808 : Int) ≤ ((1 + (Int.tmod r31 9)) + (1 + (Int.tmod r32 9))) ∧ ((1 + (Int.tmod r31 9)) + (1 + (Int.tmod r32 9))) ≤ 9223372036854775807) ∧
                                                   impl_ActDispatcher.call r9 (2, (((1 + (Int.tmod r31 9)) + (1 + (Int.tmod r32 9))), (0, (0, (0, (0, 0)))))) (fun r37 r38 =>
                                                    cnd r34
                                                     (cnd ((cond true r36 false) == r38)
                                                       (cnd (!r38)
                                                         (Q (cond true true false))
                                                         (laws_vDispatcher.call r35 r37 (fun r39 =>
                                                           Q (cond true (cond false true r39) false))))
                                                       (Q false))
                                                     (cnd (false == r38)
                                                       (cnd (!r38)
                                                         (Q (cond true true false))
                                                         (laws_vDispatcher.call r35 r37 (fun r40 =>
                                                           Q (cond true (cond false true r40) false))))
                                                       (Q false))))))))))
                                           (cnd (cond false true false)
                                             (Q false)
                                             (laws_vAt.call code 3 (fun r41 =>
                                               ((9 : Int) ≠ 0) ∧
                                               ((-9223372036854775808 : Int) ≤ (1 + (Int.tmod r41 9)) ∧ (1 + (Int.tmod r41 9)) ≤ 9223372036854775807) ∧
                                               laws_vAt.call code 4 (fun r42 =>
                                                ((9 : Int) ≠ 0) ∧
                                                ((-9223372036854775808 : Int) ≤ (1 + (Int.tmod r42 9)) ∧ (1 + (Int.tmod r42 9)) ≤ 9223372036854775807) ∧
                                                impl_ActDispatcher.call r9 (2, ((1 + (Int.tmod r41 9)), (0, (0, (0, (0, 0)))))) (fun r43 r44 =>
                                                 impl_ActDispatcher.call r43 (2, ((1 + (Int.tmod r42 9)), (0, (0, (0, (0, 0)))))) (fun r45 r46 =>
                                                  ((-9223372036854775808 : Int) ≤ ((1 + (Int.tmod r41 9)) + (1 + (Int.tmod r42 9))) ∧ ((1 + (Int.tmod r41 9)) + (1 + (Int.tmod r42 9))) ≤ 9223372036854775807) ∧
                                                  impl_ActDispatcher.call r9 (2, (((1 + (Int.tmod r41 9)) + (1 + (Int.tmod r42 9))), (0, (0, (0, (0, 0)))))) (fun r47 r48 =>
                                                   cnd r44
                                                    (cnd ((cond true r46 false) == r48)
                                                      (cnd (!r48)
                                                        (Q (cond true true false))
                                                        (laws_vDispatcher.call r45 r47 (fun r49 =>
                                                          Q (cond true (cond false true r49) false))))
                                                      (Q false))
                                                    (cnd (false == r48)
                                                      (cnd (!r48)
                                                        (Q (cond true true false))
                                                        (laws_vDispatcher.call r45 r47 (fun r50 =>
                                                          Q (cond true (cond false true r50) false))))
                                                      (Q false))))))))))))
                                      (cnd r20
                                        (impl_IsDispatcher.call r18 (fun r51 =>
                                          cnd (cond false true (cond true (!r51) false))
                                           (Q false)
                                           (laws_vAt.call code 3 (fun r52 =>
                                             ((9 : Int) ≠ 0) ∧
                                             ((-9223372036854775808 : Int) ≤ (1 + (Int.tmod r52 9)) ∧ (1 + (Int.tmod r52 9)) ≤ 9223372036854775807) ∧
                                             laws_vAt.call code 4 (fun r53 =>
                                              ((9 : Int) ≠ 0) ∧
                                              ((-9223372036854775808 : Int) ≤ (1 + (Int.tmod r53 9)) ∧ (1 + (Int.tmod r53 9)) ≤ 9223372036854775807) ∧
                                              impl_ActDispatcher.call r9 (2, ((1 + (Int.tmod r52 9)), (0, (0, (0, (0, 0)))))) (fun r54 r55 =>
                                               impl_ActDispatcher.call r54 (2, ((1 + (Int.tmod r53 9)), (0, (0, (0, (0, 0)))))) (fun r56 r57 =>
                                                ((-9223372036854775808 : Int) ≤ ((1 + (Int.tmod r52 9)) + (1 + (Int.tmod r53 9))) ∧ ((1 + (Int.tmod r52 9)) + (1 + (Int.tmod r53 9))) ≤ 9223372036854775807) ∧
                                                impl_ActDispatcher.call r9 (2, (((1 + (Int.tmod r52 9)) + (1 + (Int.tmod r53 9))), (0, (0, (0, (0, 0)))))) (fun r58 r59 =>
                                                 cnd r55
                                                  (cnd ((cond true r57 false) == r59)
                                                    (cnd (!r59)
                                                      (Q (cond true true false))
                                                      (laws_vDispatcher.call r56 r58 (fun r60 =>
                                                        Q (cond true (cond false true r60) false))))
                                                    (Q false))
                                                  (cnd (false == r59)
                                                    (cnd (!r59)
                                                      (Q (cond true true false))
                                                      (laws_vDispatcher.call r56 r58 (fun r61 =>
                                                        Q (cond true (cond false true r61) false))))
                                                    (Q false))))))))))
                                        (cnd (cond false true false)
                                          (Q false)
                                          (laws_vAt.call code 3 (fun r62 =>
                                            ((9 : Int) ≠ 0) ∧
                                            ((-9223372036854775808 : Int) ≤ (1 + (Int.tmod r62 9)) ∧ (1 + (Int.tmod r62 9)) ≤ 9223372036854775807) ∧
                                            laws_vAt.call code 4 (fun r63 =>
                                             ((9 : Int) ≠ 0) ∧
                                             ((-9223372036854775808 : Int) ≤ (1 + (Int.tmod r63 9)) ∧ (1 + (Int.tmod r63 9)) ≤ 9223372036854775807) ∧
                                             impl_ActDispatcher.call r9 (2, ((1 + (Int.tmod r62 9)), (0, (0, (0, (0, 0)))))) (fun r64 r65 =>
                                              impl_ActDispatcher.call r64 (2, ((1 + (Int.tmod r63 9)), (0, (0, (0, (0, 0)))))) (fun r66 r67 =>
                                               ((-9223372036854775808 : Int) ≤ ((1 + (Int.tmod r62 9)) + (1 + (Int.tmod r63 9))) ∧ ((1 + (Int.tmod r62 9)) + (1 + (Int.tmod r63 9))) ≤ 9223372036854775807) ∧
                                               impl_ActDispatcher.call r9 (2, (((1 + (Int.tmod r62 9)) + (1 + (Int.tmod r63 9))), (0, (0, (0, (0, 0)))))) (fun r68 r69 =>
                                                cnd r65
                                                 (cnd ((cond true r67 false) == r69)
                                                   (cnd (!r69)
                                                     (Q (cond true true false))
                                                     (laws_vDispatcher.call r66 r68 (fun r70 =>
                                                       Q (cond true (cond false true r70) false))))
                                                   (Q false))
                                                 (cnd (false == r69)
                                                   (cnd (!r69)
                                                     (Q (cond true true false))
                                                     (laws_vDispatcher.call r66 r68 (fun r71 =>
                                                       Q (cond true (cond false true r71) false))))
                                                   (Q false))))))))))))))))))))))))))))))))))))) : call code Q :=
  CallsT.fml al cuts Try.f5 sg (code, true) (fun r o => Q r.1) tOk sOk hm Try.func5 (by kernel_rfl) h (by kernel_rfl)

end laws_FnDispatchers
namespace laws_vBig
def T : Tab := [(22, ti22), (3, ti3)]
theorem tOk : TabOk P T := .cons ok22 (.cons ok3 (.nil))
def S : SigTab := []
theorem sOk : SigOk P S := .nil
def al : List Nat := []
def cuts : Cuts := []
theorem call_ (code : List (Int)) (Q : Bool → Prop) (h :
  (((List.length code) ≤ 281474976710656) →
  Q (decide (65536 < (((List.length code) : Nat) : Int))))) : call code Q :=
  CallsT.fml al cuts Try.f35 sg (code, true) (fun r o => Q r.1) tOk sOk hm Try.func35 (by kernel_rfl) h (by kernel_rfl)

end laws_vBig
namespace spec_DrawNewDispatcher
def T : Tab := [(106, ti106), (3, ti3)]
theorem tOk : TabOk P T := .cons ok106 (.cons ok3 (.nil))
def S : SigTab := [((91, []), spec_l1Cur_pick.sg), ((91, [1000000]), spec_l1Cur_pick_o.sg)]
theorem sOk : SigOk P S := .cons fn91 (.cons fn91 (.nil))
def al : List Nat := []
def cuts : Cuts := []
theorem call_ (code : List (Int)) (Q : Int → Int → Prop) (h :
  spec_l1Cur_pick.call (code, (0, 0)) 7 (fun r1 o2 =>
   ((-9223372036854775808 : Int) ≤ (r1 - 1) ∧ (r1 - 1) ≤ 9223372036854775807) ∧
   spec_l1Cur_pick.call o2 6 (fun r3 o4 =>
    Q (r1 - 1) r3))) : call code Q :=
  CallsT.fml al cuts Try.f36 sg (code, true) (fun r o => Q r.1 r.2.1) tOk sOk hm Try.func36 (by kernel_rfl) h (by kernel_rfl)

end spec_DrawNewDispatcher
namespace impl_NewDispatcher
def T : Tab := [(56, ti56)]
theorem tOk : TabOk P T := .cons ok56 (.nil)
def S : SigTab := [((47, []), impl_IsDispatcher.sg)]
theorem sOk : SigOk P S := .cons fn47 (.nil)
def al : List Nat := []
def cuts : Cuts := []
theorem call_ (m : Int) (pick : Int) (Q : D.Dispatcher → Bool → Prop) (h :
  impl_IsDispatcher.call (m, (pick, (0, (([] : List (D.Job)), ([] : List (D.Task)))))) (fun r1 =>
   cnd (!r1)
    (Q (0, (0, (0, (([] : List (D.Job)), ([] : List (D.Task)))))) false)
    (Q (m, (pick, (0, (([] : List (D.Job)), ([] : List (D.Task)))))) true))) : call m pick Q :=
  CallsT.fml al cuts Try.f37 sg (m, pick, true) (fun r o => Q r.1 r.2.1) tOk sOk hm Try.func37 (by kernel_rfl) h (by kernel_rfl)

end impl_NewDispatcher
namespace spec_NewDispatcher
def T : Tab := [(56, ti56)]
theorem tOk : TabOk P T := .cons ok56 (.nil)
def S : SigTab := [((112, []), spec_l12Good.sg)]
theorem sOk : SigOk P S := .cons fn112 (.nil)
def al : List Nat := []
def cuts : Cuts := []
theorem call_ (m : Int) (pick : Int) (Q : D.Dispatcher → Bool → Prop) (h :
  spec_l12Good.call (m, (pick, (0, (([] : List (D.Job)), ([] : List (D.Task)))))) (fun r1 =>
   cnd (!r1)
    (Q (0, (0, (0, (([] : List (D.Job)), ([] : List (D.Task)))))) false)
    (Q (m, (pick, (0, (([] : List (D.Job)), ([] : List (D.Task)))))) true))) : call m pick Q :=
  CallsT.fml al cuts Try.f38 sg (m, pick, true) (fun r o => Q r.1 r.2.1) tOk sOk hm Try.func38 (by kernel_rfl) h (by kernel_rfl)

end spec_NewDispatcher
namespace laws_vCut
def T : Tab := [(22, ti22), (3, ti3), (5, ti5)]
theorem tOk : TabOk P T := .cons ok22 (.cons ok3 (.cons ok5 (.nil)))
def S : SigTab := []
theorem sOk : SigOk P S := .nil
def al : List Nat := []
def cuts : Cuts := []
theorem call_ (code : List (Int)) (n : Int) (Q : List (Int) → Prop) (h :
  (((List.length code) ≤ 281474976710656) →
  cnd (decide ((((List.length code) : Nat) : Int) < n))
   ((((List.length code) ≤ 281474976710656) →
    ((0 : Int) ≤ (((List.length code) : Nat) : Int) ∧ (((List.length code) : Nat) : Int) ≤ (((List.length code) : Nat) : Int) ∧ (((List.length code) : Nat) : Int) ≤ (((List.length code) : Nat) : Int)) ∧
    ((List.length ([] : List (Int))) + (List.length (List.drop (Int.toNat (((List.length code) : Nat) : Int)) code)) ≤ 4294967296) ∧
    ((List.length (([] : List (Int)) ++ (List.drop (Int.toNat (((List.length code) : Nat) : Int)) code))) + (List.length [(IntKind.wrap .u8 (((List.length code) : Nat) : Int))]) ≤ 4294967296) ∧
    Q ((([] : List (Int)) ++ (List.drop (Int.toNat (((List.length code) : Nat) : Int)) code)) ++ [(IntKind.wrap .u8 (((List.length code) : Nat) : Int))])))
   (((0 : Int) ≤ n ∧ n ≤ (((List.length code) : Nat) : Int) ∧ (((List.length code) : Nat) : Int) ≤ (((List.length code) : Nat) : Int)) ∧
    ((List.length ([] : List (Int))) + (List.length (List.drop (Int.toNat n) code)) ≤ 4294967296) ∧
    ((List.length (([] : List (Int)) ++ (List.drop (Int.toNat n) code))) + (List.length [(IntKind.wrap .u8 n)]) ≤ 4294967296) ∧
    Q ((([] : List (Int)) ++ (List.drop (Int.toNat n) code)) ++ [(IntKind.wrap .u8 n)])))) : call code n Q :=
  CallsT.fml al cuts Try.f40 sg (code, n, true) (fun r o => Q r.1) tOk sOk hm Try.func40 (by kernel_rfl) h (by kernel_rfl)

end laws_vCut
namespace spec_DrawActDispatcher
def T : Tab := [(56, ti56), (62, ti62), (106, ti106)]
theorem tOk : TabOk P T := .cons ok56 (.cons ok62 (.cons ok106 (.nil)))
def S : SigTab := [((113, []), spec_l1Cur_dispatcher.sg), ((113, [1000000]), spec_l1Cur_dispatcher_o.sg), ((114, []), spec_l1Cur_act12.sg), ((114, [1000000]), spec_l1Cur_act12_o.sg)]
theorem sOk : SigOk P S := .cons fn113 (.cons fn113 (.cons fn114 (.cons fn114 (.nil))))
def al : List Nat := []
def cuts : Cuts := []
theorem call_ (code : List (Int)) (Q : D.Dispatcher → D.Act → Prop) (h :
  spec_l1Cur_dispatcher_o.call (code, (0, 0)) (fun r1 o2 =>
   spec_l1Cur_act12_o.call o2 r1 (fun r3 o4 =>
    Q r1 r3))) : call code Q :=
  CallsT.fml al cuts Try.f39 sg (code, true) (fun r o => Q r.1 r.2.1) tOk sOk hm Try.func39 (by kernel_rfl) h (by kernel_rfl)

end spec_DrawActDispatcher
namespace impl_ActDispatcher
def T : Tab := [(56, ti56), (62, ti62)]
theorem tOk : TabOk P T := .cons ok56 (.cons ok62 (.nil))
def S : SigTab := [((47, []), impl_IsDispatcher.sg), ((115, []), impl_Dispatcher_acted.sg)]
theorem sOk : SigOk P S := .cons fn47 (.cons fn115 (.nil))
def al : List Nat := []
def cuts : Cuts := []
theorem call_ (d : D.Dispatcher) (a : D.Act) (Q : D.Dispatcher → Bool → Prop) (h :
  impl_IsDispatcher.call d (fun r1 =>
   cnd (!r1)
    (Q (0, (0, (0, (([] : List (D.Job)), ([] : List (D.Task)))))) false)
    (impl_Dispatcher_acted.call d a (fun r2 r3 =>
      Q r2 r3)))) : call d a Q :=
  CallsT.fml al cuts Try.f41 sg (d, a, true) (fun r o => Q r.1 r.2.1) tOk sOk hm Try.func41 (by kernel_rfl) h (by kernel_rfl)

end impl_ActDispatcher
end Go.Vm
