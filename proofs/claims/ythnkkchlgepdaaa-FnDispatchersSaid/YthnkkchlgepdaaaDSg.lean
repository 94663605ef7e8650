/- Signatures and contracts of functions. Written by a program of this work out of the evaluator Vm. No condition. -/
import Derived.Test.YthnkkchlgepdaaaVmZk
import Derived.Test.YthnkkchlgepdaaaProg
import Derived.KernelRfl
namespace Go.Vm
open Go.Proofs
set_option linter.unusedVariables false

noncomputable abbrev P : Program := Try.prog
theorem hm : P.follows .mixedOrders = true := by kernel_rfl

namespace D
abbrev ErrorAddressString : Type := ((ByteArray) × Int)
abbrev tErrorAddressString : Ty := (.pair .str (.int .u64))
abbrev Span : Type := ((Int) × ((Int) × Int))
abbrev tSpan : Ty := (.pair (.int .i64) (.pair (.int .i64) (.int .i64)))
abbrev Task : Type := Span
abbrev tTask : Ty := tSpan
abbrev L1Cur : Type := ((List (Int)) × ((Int) × Int))
abbrev tL1Cur : Ty := (.pair (.sl (.int .u8)) (.pair (.int .i64) (.int .u64)))
abbrev L2Search : Type := L1Cur
abbrev tL2Search : Ty := (.pair (.sl (.int .i64)) (.pair (.int .i64) (.int .i64)))
abbrev Job : Type := ((Int) × Task)
abbrev tJob : Ty := (.pair (.int .i64) tTask)
abbrev BoundsError : Type := ((Int) × ((Int) × ((Bool) × Int)))
abbrev tBoundsError : Ty := (.pair (.int .i64) (.pair (.int .i64) (.pair .bool (.int .u8))))
abbrev Act : Type := ((Int) × ((Int) × ((Int) × Job)))
abbrev tAct : Ty := (.pair (.int .i64) (.pair (.int .i64) (.pair (.int .i64) tJob)))
abbrev Dispatcher : Type := ((Int) × ((Int) × ((Int) × ((List (Job)) × List (Task)))))
abbrev tDispatcher : Ty := (.pair (.int .i64) (.pair (.int .i64) (.pair (.int .i64) (.pair (.sl tJob) (.sl tTask)))))
end D
def ti3 : TI := ⟨(.int .i64), .ro, false, [], false⟩
theorem ok3 : TiOk P 3 ti3 := .of (by kernel_rfl)
def ti4 : TI := ⟨.bool, .ro, false, [], true⟩
theorem ok4 : TiOk P 4 ti4 := .of (by kernel_rfl)
def ti5 : TI := ⟨(.int .u8), .ro, false, [], false⟩
theorem ok5 : TiOk P 5 ti5 := .of (by kernel_rfl)
def ti22 : TI := ⟨(.sl (.int .u8)), (.own 5 .ro), false, [], false⟩
theorem ok22 : TiOk P 22 ti22 := .of (by kernel_rfl)
def ti25 : TI := ⟨(.sl (.int .i64)), (.own 3 .ro), false, [], false⟩
theorem ok25 : TiOk P 25 ti25 := .of (by kernel_rfl)
def ti39 : TI := ⟨(.sl D.tJob), (.own 60 .ro), false, [], false⟩
theorem ok39 : TiOk P 39 ti39 := .of (by kernel_rfl)
def ti54 : TI := ⟨(.sl D.tTask), (.own 132 .ro), false, [], false⟩
theorem ok54 : TiOk P 54 ti54 := .of (by kernel_rfl)
def ti56 : TI := ⟨D.tDispatcher, (.pair .ro (.pair .ro (.pair .ro (.pair (.own 60 .ro) (.own 132 .ro))))), false, [0, 1, 2, 3, 4], false⟩
theorem ok56 : TiOk P 56 ti56 := .of (by kernel_rfl)
def ti60 : TI := ⟨D.tJob, .ro, false, [0, 1, 2, 3], true⟩
theorem ok60 : TiOk P 60 ti60 := .of (by kernel_rfl)
def ti62 : TI := ⟨D.tAct, .ro, false, [0, 1, 2, 3], true⟩
theorem ok62 : TiOk P 62 ti62 := .of (by kernel_rfl)
def ti67 : TI := ⟨(.sl D.tAct), (.own 62 .ro), false, [], false⟩
theorem ok67 : TiOk P 67 ti67 := .of (by kernel_rfl)
def ti104 : TI := ⟨(.int .u64), .ro, false, [], false⟩
theorem ok104 : TiOk P 104 ti104 := .of (by kernel_rfl)
def ti106 : TI := ⟨D.tL1Cur, (.pair (.own 5 .ro) .ro), false, [0, 1, 2], false⟩
theorem ok106 : TiOk P 106 ti106 := .of (by kernel_rfl)
def ti132 : TI := ⟨D.tTask, .ro, false, [0, 1, 2], true⟩
theorem ok132 : TiOk P 132 ti132 := .of (by kernel_rfl)
theorem fn5 : FnOk P 5 := fnB_ok (by kernel_rfl)
theorem fn35 : FnOk P 35 := fnB_ok (by kernel_rfl)
theorem fn36 : FnOk P 36 := fnB_ok (by kernel_rfl)
theorem fn37 : FnOk P 37 := fnB_ok (by kernel_rfl)
theorem fn38 : FnOk P 38 := fnB_ok (by kernel_rfl)
theorem fn39 : FnOk P 39 := fnB_ok (by kernel_rfl)
theorem fn40 : FnOk P 40 := fnB_ok (by kernel_rfl)
theorem fn41 : FnOk P 41 := fnB_ok (by kernel_rfl)
theorem fn42 : FnOk P 42 := fnB_ok (by kernel_rfl)
theorem fn43 : FnOk P 43 := fnB_ok (by kernel_rfl)
theorem fn44 : FnOk P 44 := fnB_ok (by kernel_rfl)
theorem fn45 : FnOk P 45 := fnB_ok (by kernel_rfl)
theorem fn46 : FnOk P 46 := fnB_ok (by kernel_rfl)
theorem fn47 : FnOk P 47 := fnB_ok (by kernel_rfl)
theorem fn48 : FnOk P 48 := fnB_ok (by kernel_rfl)
theorem fn49 : FnOk P 49 := fnB_ok (by kernel_rfl)
theorem fn82 : FnOk P 82 := fnB_ok (by kernel_rfl)
theorem fn83 : FnOk P 83 := fnB_ok (by kernel_rfl)
theorem fn87 : FnOk P 87 := fnB_ok (by kernel_rfl)
theorem fn91 : FnOk P 91 := fnB_ok (by kernel_rfl)
theorem fn95 : FnOk P 95 := fnB_ok (by kernel_rfl)
theorem fn102 : FnOk P 102 := fnB_ok (by kernel_rfl)
theorem fn112 : FnOk P 112 := fnB_ok (by kernel_rfl)
theorem fn113 : FnOk P 113 := fnB_ok (by kernel_rfl)
theorem fn114 : FnOk P 114 := fnB_ok (by kernel_rfl)
theorem fn115 : FnOk P 115 := fnB_ok (by kernel_rfl)
theorem fn116 : FnOk P 116 := fnB_ok (by kernel_rfl)
theorem fn117 : FnOk P 117 := fnB_ok (by kernel_rfl)
theorem fn118 : FnOk P 118 := fnB_ok (by kernel_rfl)
theorem fn119 : FnOk P 119 := fnB_ok (by kernel_rfl)
theorem fn120 : FnOk P 120 := fnB_ok (by kernel_rfl)
theorem fn121 : FnOk P 121 := fnB_ok (by kernel_rfl)
theorem fn122 : FnOk P 122 := fnB_ok (by kernel_rfl)
theorem fn151 : FnOk P 151 := fnB_ok (by kernel_rfl)
theorem fn156 : FnOk P 156 := fnB_ok (by kernel_rfl)
theorem fn162 : FnOk P 162 := fnB_ok (by kernel_rfl)
theorem fn166 : FnOk P 166 := fnB_ok (by kernel_rfl)
theorem fn167 : FnOk P 167 := fnB_ok (by kernel_rfl)
theorem fn168 : FnOk P 168 := fnB_ok (by kernel_rfl)
theorem fn169 : FnOk P 169 := fnB_ok (by kernel_rfl)
theorem fn170 : FnOk P 170 := fnB_ok (by kernel_rfl)
theorem fn171 : FnOk P 171 := fnB_ok (by kernel_rfl)
theorem fn172 : FnOk P 172 := fnB_ok (by kernel_rfl)
theorem fn173 : FnOk P 173 := fnB_ok (by kernel_rfl)
theorem fn174 : FnOk P 174 := fnB_ok (by kernel_rfl)
theorem fn176 : FnOk P 176 := fnB_ok (by kernel_rfl)
theorem fn187 : FnOk P 187 := fnB_ok (by kernel_rfl)
theorem fn188 : FnOk P 188 := fnB_ok (by kernel_rfl)
theorem fn189 : FnOk P 189 := fnB_ok (by kernel_rfl)
theorem fn190 : FnOk P 190 := fnB_ok (by kernel_rfl)
theorem fn191 : FnOk P 191 := fnB_ok (by kernel_rfl)
theorem fn192 : FnOk P 192 := fnB_ok (by kernel_rfl)
theorem fn194 : FnOk P 194 := fnB_ok (by kernel_rfl)
theorem fn195 : FnOk P 195 := fnB_ok (by kernel_rfl)
theorem fn196 : FnOk P 196 := fnB_ok (by kernel_rfl)
theorem fn197 : FnOk P 197 := fnB_ok (by kernel_rfl)
theorem fn198 : FnOk P 198 := fnB_ok (by kernel_rfl)
theorem fn199 : FnOk P 199 := fnB_ok (by kernel_rfl)
theorem fn200 : FnOk P 200 := fnB_ok (by kernel_rfl)
theorem fn201 : FnOk P 201 := fnB_ok (by kernel_rfl)
theorem fn202 : FnOk P 202 := fnB_ok (by kernel_rfl)
theorem fn203 : FnOk P 203 := fnB_ok (by kernel_rfl)
theorem fn204 : FnOk P 204 := fnB_ok (by kernel_rfl)
namespace laws_FnDispatchers
def sg : Sig := ⟨[.val (.sl (.int .u8)) .ro], [(.bool, .ro)]⟩
def call (code : List (Int)) (Q : Bool → Prop) : Prop := CallsT P 5 sg (code, true) (fun r o => Q r.1)
end laws_FnDispatchers
namespace laws_vBig
def sg : Sig := ⟨[.val (.sl (.int .u8)) .ro], [(.bool, .ro)]⟩
def call (code : List (Int)) (Q : Bool → Prop) : Prop := CallsT P 35 sg (code, true) (fun r o => Q r.1)
end laws_vBig
namespace spec_DrawNewDispatcher
def sg : Sig := ⟨[.val (.sl (.int .u8)) .ro], [((.int .i64), .ro), ((.int .i64), .ro)]⟩
def call (code : List (Int)) (Q : Int → Int → Prop) : Prop := CallsT P 36 sg (code, true) (fun r o => Q r.1 r.2.1)
end spec_DrawNewDispatcher
namespace impl_NewDispatcher
def sg : Sig := ⟨[.val (.int .i64) .ro, .val (.int .i64) .ro], [(D.tDispatcher, (.pair .ro (.pair .ro (.pair .ro (.pair (.own 60 .ro) (.own 132 .ro)))))), (.bool, .ro)]⟩
def call (m : Int) (pick : Int) (Q : D.Dispatcher → Bool → Prop) : Prop := CallsT P 37 sg (m, pick, true) (fun r o => Q r.1 r.2.1)
end impl_NewDispatcher
namespace spec_NewDispatcher
def sg : Sig := ⟨[.val (.int .i64) .ro, .val (.int .i64) .ro], [(D.tDispatcher, (.pair .ro (.pair .ro (.pair .ro (.pair (.own 60 .ro) (.own 132 .ro)))))), (.bool, .ro)]⟩
def call (m : Int) (pick : Int) (Q : D.Dispatcher → Bool → Prop) : Prop := CallsT P 38 sg (m, pick, true) (fun r o => Q r.1 r.2.1)
end spec_NewDispatcher
namespace laws_vCut
def sg : Sig := ⟨[.val (.sl (.int .u8)) .ro, .val (.int .i64) .ro], [((.sl (.int .u8)), (.own 5 .ro))]⟩
def call (code : List (Int)) (n : Int) (Q : List (Int) → Prop) : Prop := CallsT P 40 sg (code, n, true) (fun r o => Q r.1)
end laws_vCut
namespace spec_DrawActDispatcher
def sg : Sig := ⟨[.val (.sl (.int .u8)) (.own 5 .ro)], [(D.tDispatcher, (.pair .ro (.pair .ro (.pair .ro (.pair (.own 60 .ro) (.own 132 .ro)))))), (D.tAct, .ro)]⟩
def call (code : List (Int)) (Q : D.Dispatcher → D.Act → Prop) : Prop := CallsT P 39 sg (code, true) (fun r o => Q r.1 r.2.1)
end spec_DrawActDispatcher
namespace impl_ActDispatcher
def sg : Sig := ⟨[.val D.tDispatcher .ro, .val D.tAct .ro], [(D.tDispatcher, (.pair .ro (.pair .ro (.pair .ro (.pair (.own 60 .ro) (.own 132 .ro)))))), (.bool, .ro)]⟩
def call (d : D.Dispatcher) (a : D.Act) (Q : D.Dispatcher → Bool → Prop) : Prop := CallsT P 41 sg (d, a, true) (fun r o => Q r.1 r.2.1)
end impl_ActDispatcher
namespace spec_ActDispatcher
def sg : Sig := ⟨[.val D.tDispatcher .ro, .val D.tAct .ro], [(D.tDispatcher, (.pair .ro (.pair .ro (.pair .ro (.pair (.own 60 .ro) (.own 132 .ro)))))), (.bool, .ro)]⟩
def call (d : D.Dispatcher) (a : D.Act) (Q : D.Dispatcher → Bool → Prop) : Prop := CallsT P 42 sg (d, a, true) (fun r o => Q r.1 r.2.1)
end spec_ActDispatcher
namespace spec_DrawPlayActs
def sg : Sig := ⟨[.val (.sl (.int .u8)) (.own 5 .ro)], [(D.tDispatcher, (.pair .ro (.pair .ro (.pair .ro (.pair (.own 60 .ro) (.own 132 .ro)))))), ((.sl D.tAct), (.own 62 .ro))]⟩
def call (code : List (Int)) (Q : D.Dispatcher → List (D.Act) → Prop) : Prop := CallsT P 43 sg (code, true) (fun r o => Q r.1 r.2.1)
end spec_DrawPlayActs
namespace impl_PlayActs
def sg : Sig := ⟨[.val D.tDispatcher .ro, .val (.sl D.tAct) .ro], [(D.tDispatcher, (.pair .ro (.pair .ro (.pair .ro (.pair (.own 60 .ro) (.own 132 .ro)))))), ((.int .i64), .ro), (.bool, .ro)]⟩
def call (d : D.Dispatcher) (list : List (D.Act)) (Q : D.Dispatcher → Int → Bool → Prop) : Prop := CallsT P 44 sg (d, list, true) (fun r o => Q r.1 r.2.1 r.2.2.1)
end impl_PlayActs
namespace spec_PlayActs
def sg : Sig := ⟨[.val D.tDispatcher .ro, .val (.sl D.tAct) .ro], [(D.tDispatcher, (.pair .ro (.pair .ro (.pair .ro (.pair (.own 60 .ro) (.own 132 .ro)))))), ((.int .i64), .ro), (.bool, .ro)]⟩
def call (d : D.Dispatcher) (list : List (D.Act)) (Q : D.Dispatcher → Int → Bool → Prop) : Prop := CallsT P 45 sg (d, list, true) (fun r o => Q r.1 r.2.1 r.2.2.1)
end spec_PlayActs
namespace laws_vDispatcher
def sg : Sig := ⟨[.val D.tDispatcher .ro, .val D.tDispatcher .ro], [(.bool, .ro)]⟩
def call (a : D.Dispatcher) (b : D.Dispatcher) (Q : Bool → Prop) : Prop := CallsT P 46 sg (a, b, true) (fun r o => Q r.1)
end laws_vDispatcher
namespace impl_IsDispatcher
def sg : Sig := ⟨[.val D.tDispatcher .ro], [(.bool, .ro)]⟩
def call (d : D.Dispatcher) (Q : Bool → Prop) : Prop := CallsT P 47 sg (d, true) (fun r o => Q r.1)
end impl_IsDispatcher
namespace spec_IsDispatcher
def sg : Sig := ⟨[.val D.tDispatcher .ro], [(.bool, .ro)]⟩
def call (d : D.Dispatcher) (Q : Bool → Prop) : Prop := CallsT P 48 sg (d, true) (fun r o => Q r.1)
end spec_IsDispatcher
namespace laws_vAt
def sg : Sig := ⟨[.val (.sl (.int .u8)) .ro, .val (.int .i64) .ro], [((.int .i64), .ro)]⟩
def call (code : List (Int)) (i : Int) (Q : Int → Prop) : Prop := CallsT P 49 sg (code, i, true) (fun r o => Q r.1)
end laws_vAt
namespace spec_l1Cur_pick
def sg : Sig := ⟨[.io D.tL1Cur .ro, .val (.int .i64) .ro], [((.int .i64), .ro)]⟩
def call (c : D.L2Search) (n : Int) (Q : Int → D.L2Search → Prop) : Prop := CallsT P 91 sg (c, n, true) (fun r o => Q r.1 o.1)
end spec_l1Cur_pick
namespace spec_l1Cur_pick_o
def sg : Sig := ⟨[.io D.tL1Cur (.pair (.own 5 .ro) .ro), .val (.int .i64) .ro], [((.int .i64), .ro)]⟩
def call (c : D.L2Search) (n : Int) (Q : Int → D.L2Search → Prop) : Prop := CallsT P 91 sg (c, n, true) (fun r o => Q r.1 o.1)
end spec_l1Cur_pick_o
namespace spec_l12Good
def sg : Sig := ⟨[.val D.tDispatcher .ro], [(.bool, .ro)]⟩
def call (d : D.Dispatcher) (Q : Bool → Prop) : Prop := CallsT P 112 sg (d, true) (fun r o => Q r.1)
end spec_l12Good
namespace spec_l1Cur_dispatcher
def sg : Sig := ⟨[.io D.tL1Cur .ro], [(D.tDispatcher, (.pair .ro (.pair .ro (.pair .ro (.pair (.own 60 .ro) (.own 132 .ro))))))]⟩
end spec_l1Cur_dispatcher
namespace spec_l1Cur_dispatcher_o
def sg : Sig := ⟨[.io D.tL1Cur (.pair (.own 5 .ro) .ro)], [(D.tDispatcher, (.pair .ro (.pair .ro (.pair .ro (.pair (.own 60 .ro) (.own 132 .ro))))))]⟩
def call (c : D.L2Search) (Q : D.Dispatcher → D.L2Search → Prop) : Prop := CallsT P 113 sg (c, true) (fun r o => Q r.1 o.1)
end spec_l1Cur_dispatcher_o
namespace spec_l1Cur_act12
def sg : Sig := ⟨[.io D.tL1Cur .ro, .val D.tDispatcher .ro], [(D.tAct, .ro)]⟩
def call (c : D.L2Search) (d : D.Dispatcher) (Q : D.Act → D.L2Search → Prop) : Prop := CallsT P 114 sg (c, d, true) (fun r o => Q r.1 o.1)
end spec_l1Cur_act12
namespace spec_l1Cur_act12_o
def sg : Sig := ⟨[.io D.tL1Cur (.pair (.own 5 .ro) .ro), .val D.tDispatcher .ro], [(D.tAct, .ro)]⟩
def call (c : D.L2Search) (d : D.Dispatcher) (Q : D.Act → D.L2Search → Prop) : Prop := CallsT P 114 sg (c, d, true) (fun r o => Q r.1 o.1)
end spec_l1Cur_act12_o
namespace impl_Dispatcher_acted
def sg : Sig := ⟨[.val D.tDispatcher .ro, .val D.tAct .ro], [(D.tDispatcher, (.pair .ro (.pair .ro (.pair .ro (.pair (.own 60 .ro) (.own 132 .ro)))))), (.bool, .ro)]⟩
def call (d : D.Dispatcher) (a : D.Act) (Q : D.Dispatcher → Bool → Prop) : Prop := CallsT P 115 sg (d, a, true) (fun r o => Q r.1 r.2.1)
end impl_Dispatcher_acted
namespace spec_l12Act
def sg : Sig := ⟨[.val D.tDispatcher .ro, .val D.tAct .ro], [(D.tDispatcher, (.pair .ro (.pair .ro (.pair .ro (.pair (.own 60 .ro) (.own 132 .ro)))))), (.bool, .ro)]⟩
def call (d : D.Dispatcher) (a : D.Act) (Q : D.Dispatcher → Bool → Prop) : Prop := CallsT P 116 sg (d, a, true) (fun r o => Q r.1 r.2.1)
end spec_l12Act
namespace impl_Dispatcher_own
def sg : Sig := ⟨[.val D.tDispatcher .ro], [(D.tDispatcher, (.pair .ro (.pair .ro (.pair .ro (.pair (.own 60 .ro) (.own 132 .ro))))))]⟩
def call (d : D.Dispatcher) (Q : D.Dispatcher → Prop) : Prop := CallsT P 117 sg (d, true) (fun r o => Q r.1)
end impl_Dispatcher_own
namespace spec_l12Own
def sg : Sig := ⟨[.val D.tDispatcher .ro], [(D.tDispatcher, (.pair .ro (.pair .ro (.pair .ro (.pair (.own 60 .ro) (.own 132 .ro))))))]⟩
def call (d : D.Dispatcher) (Q : D.Dispatcher → Prop) : Prop := CallsT P 118 sg (d, true) (fun r o => Q r.1)
end spec_l12Own
namespace laws_vJobs
def sg : Sig := ⟨[.val (.sl D.tJob) .ro, .val (.sl D.tJob) .ro], [(.bool, .ro)]⟩
def call (a : List (D.Job)) (b : List (D.Job)) (Q : Bool → Prop) : Prop := CallsT P 119 sg (a, b, true) (fun r o => Q r.1)
end laws_vJobs
namespace laws_vTasks
def sg : Sig := ⟨[.val (.sl D.tTask) .ro, .val (.sl D.tTask) .ro], [(.bool, .ro)]⟩
def call (a : List (D.Task)) (b : List (D.Task)) (Q : Bool → Prop) : Prop := CallsT P 120 sg (a, b, true) (fun r o => Q r.1)
end laws_vTasks
namespace impl_within
def sg : Sig := ⟨[.val (.int .i64) .ro, .val (.int .i64) .ro, .val (.int .i64) .ro], [(.bool, .ro)]⟩
def call (n : Int) (low : Int) (high : Int) (Q : Bool → Prop) : Prop := CallsT P 82 sg (n, low, high, true) (fun r o => Q r.1)
end impl_within
namespace impl_IsJobs
def sg : Sig := ⟨[.val (.sl D.tJob) .ro], [(.bool, .ro)]⟩
def call (jobs : List (D.Job)) (Q : Bool → Prop) : Prop := CallsT P 83 sg (jobs, true) (fun r o => Q r.1)
end impl_IsJobs
namespace impl_isNumber
def sg : Sig := ⟨[.val (.int .i64) .ro, .val (.int .i64) .ro], [(.bool, .ro)]⟩
def call (i : Int) (n : Int) (Q : Bool → Prop) : Prop := CallsT P 121 sg (i, n, true) (fun r o => Q r.1)
end impl_isNumber
namespace impl_Dispatcher_endOf
def sg : Sig := ⟨[.val D.tDispatcher .ro, .val D.tTask .ro], [((.int .i64), .ro)]⟩
def call (d : D.Dispatcher) (t : D.Task) (Q : Int → Prop) : Prop := CallsT P 122 sg (d, t, true) (fun r o => Q r.1)
end impl_Dispatcher_endOf
namespace spec_l1Cur_next
def sg : Sig := ⟨[.io D.tL1Cur .ro], [((.int .i64), .ro)]⟩
def call (c : D.L2Search) (Q : Int → D.L2Search → Prop) : Prop := CallsT P 156 sg (c, true) (fun r o => Q r.1 o.1)
end spec_l1Cur_next
namespace spec_l1Cur_next_o
def sg : Sig := ⟨[.io D.tL1Cur (.pair (.own 5 .ro) .ro)], [((.int .i64), .ro)]⟩
def call (c : D.L2Search) (Q : Int → D.L2Search → Prop) : Prop := CallsT P 156 sg (c, true) (fun r o => Q r.1 o.1)
end spec_l1Cur_next_o
namespace spec_l1In
def sg : Sig := ⟨[.val (.int .i64) .ro, .val (.int .i64) .ro, .val (.int .i64) .ro], [(.bool, .ro)]⟩
def call (x : Int) (a : Int) (b : Int) (Q : Bool → Prop) : Prop := CallsT P 95 sg (x, a, b, true) (fun r o => Q r.1)
end spec_l1In
namespace spec_l2Good
def sg : Sig := ⟨[.val (.sl D.tJob) .ro], [(.bool, .ro)]⟩
def call (jobs : List (D.Job)) (Q : Bool → Prop) : Prop := CallsT P 102 sg (jobs, true) (fun r o => Q r.1)
end spec_l2Good
namespace spec_l12Tasks
def sg : Sig := ⟨[.val D.tDispatcher .ro], [(.bool, .ro)]⟩
def call (d : D.Dispatcher) (Q : Bool → Prop) : Prop := CallsT P 166 sg (d, true) (fun r o => Q r.1)
end spec_l12Tasks
namespace spec_l1Cur_among
def sg : Sig := ⟨[.io D.tL1Cur .ro, .val (.sl (.int .i64)) .ro], [((.int .i64), .ro)]⟩
def call (c : D.L2Search) (list : List (Int)) (Q : Int → D.L2Search → Prop) : Prop := CallsT P 87 sg (c, list, true) (fun r o => Q r.1 o.1)
end spec_l1Cur_among
namespace spec_l1Cur_among_o
def sg : Sig := ⟨[.io D.tL1Cur (.pair (.own 5 .ro) .ro), .val (.sl (.int .i64)) .ro], [((.int .i64), .ro)]⟩
def call (c : D.L2Search) (list : List (Int)) (Q : Int → D.L2Search → Prop) : Prop := CallsT P 87 sg (c, list, true) (fun r o => Q r.1 o.1)
end spec_l1Cur_among_o
namespace spec_l1Most
def sg : Sig := ⟨[.val (.int .i64) .ro, .val (.int .i64) .ro], [((.int .i64), .ro)]⟩
def call (a : Int) (b : Int) (Q : Int → Prop) : Prop := CallsT P 167 sg (a, b, true) (fun r o => Q r.1)
end spec_l1Most
namespace spec_l1Cur_job12
def sg : Sig := ⟨[.io D.tL1Cur .ro, .val (.int .i64) .ro], [(D.tJob, .ro)]⟩
def call (c : D.L2Search) (now : Int) (Q : D.Job → D.L2Search → Prop) : Prop := CallsT P 168 sg (c, now, true) (fun r o => Q r.1 o.1)
end spec_l1Cur_job12
namespace spec_l1Cur_job12_o
def sg : Sig := ⟨[.io D.tL1Cur (.pair (.own 5 .ro) .ro), .val (.int .i64) .ro], [(D.tJob, .ro)]⟩
def call (c : D.L2Search) (now : Int) (Q : D.Job → D.L2Search → Prop) : Prop := CallsT P 168 sg (c, now, true) (fun r o => Q r.1 o.1)
end spec_l1Cur_job12_o
namespace impl_Act_named
def sg : Sig := ⟨[.val D.tAct .ro], [(.bool, .ro)]⟩
def call (a : D.Act) (Q : Bool → Prop) : Prop := CallsT P 169 sg (a, true) (fun r o => Q r.1)
end impl_Act_named
namespace impl_Dispatcher_done
def sg : Sig := ⟨[.val D.tDispatcher (.pair .ro (.pair .ro (.pair .ro (.pair (.own 60 .ro) (.own 132 .ro))))), .val D.tAct .ro], [(D.tDispatcher, (.pair .ro (.pair .ro (.pair .ro (.pair (.own 60 .ro) (.own 132 .ro)))))), (.bool, .ro)]⟩
def call (d : D.Dispatcher) (a : D.Act) (Q : D.Dispatcher → Bool → Prop) : Prop := CallsT P 170 sg (d, a, true) (fun r o => Q r.1 r.2.1)
end impl_Dispatcher_done
namespace spec_l12Plain
def sg : Sig := ⟨[.val D.tAct .ro], [(.bool, .ro)]⟩
def call (a : D.Act) (Q : Bool → Prop) : Prop := CallsT P 171 sg (a, true) (fun r o => Q r.1)
end spec_l12Plain
namespace spec_l12May
def sg : Sig := ⟨[.val D.tDispatcher .ro, .val D.tAct .ro], [(.bool, .ro)]⟩
def call (d : D.Dispatcher) (a : D.Act) (Q : Bool → Prop) : Prop := CallsT P 172 sg (d, a, true) (fun r o => Q r.1)
end spec_l12May
namespace spec_l12Run
def sg : Sig := ⟨[.val D.tDispatcher .ro, .val (.int .i64) .ro], [(D.tDispatcher, (.pair .ro (.pair .ro (.pair .ro (.pair (.own 60 .ro) (.own 132 .ro))))))]⟩
def call (d : D.Dispatcher) (steps : Int) (Q : D.Dispatcher → Prop) : Prop := CallsT P 173 sg (d, steps, true) (fun r o => Q r.1)
end spec_l12Run
namespace spec_l12Cancel
def sg : Sig := ⟨[.val D.tDispatcher .ro, .val (.int .i64) .ro], [(D.tDispatcher, (.pair .ro (.pair .ro (.pair .ro (.pair (.own 60 .ro) (.own 132 .ro))))))]⟩
def call (d : D.Dispatcher) (job : Int) (Q : D.Dispatcher → Prop) : Prop := CallsT P 174 sg (d, job, true) (fun r o => Q r.1)
end spec_l12Cancel
namespace impl_isDate
def sg : Sig := ⟨[.val (.int .i64) .ro], [(.bool, .ro)]⟩
def call (n : Int) (Q : Bool → Prop) : Prop := CallsT P 151 sg (n, true) (fun r o => Q r.1)
end impl_isDate
namespace spec_l2Job
def sg : Sig := ⟨[.val D.tJob .ro], [(.bool, .ro)]⟩
def call (j : D.Job) (Q : Bool → Prop) : Prop := CallsT P 162 sg (j, true) (fun r o => Q r.1)
end spec_l2Job
namespace spec_l3Job
def sg : Sig := ⟨[.val (.sl D.tJob) .ro, .val (.int .i64) .ro], [(.bool, .ro)]⟩
def call (jobs : List (D.Job)) (i : Int) (Q : Bool → Prop) : Prop := CallsT P 176 sg (jobs, i, true) (fun r o => Q r.1)
end spec_l3Job
namespace impl_Dispatcher_has
def sg : Sig := ⟨[.val D.tDispatcher .ro, .val (.int .i64) .ro], [(.bool, .ro)]⟩
def call (d : D.Dispatcher) (i : Int) (Q : Bool → Prop) : Prop := CallsT P 187 sg (d, i, true) (fun r o => Q r.1)
end impl_Dispatcher_has
namespace impl_Dispatcher_step
def sg : Sig := ⟨[.val D.tDispatcher (.pair .ro (.pair .ro (.pair .ro (.pair (.own 60 .ro) (.own 132 .ro)))))], [(D.tDispatcher, (.pair .ro (.pair .ro (.pair .ro (.pair (.own 60 .ro) (.own 132 .ro))))))]⟩
def call (d : D.Dispatcher) (Q : D.Dispatcher → Prop) : Prop := CallsT P 188 sg (d, true) (fun r o => Q r.1)
end impl_Dispatcher_step
namespace impl_Dispatcher_without
def sg : Sig := ⟨[.val D.tDispatcher (.pair .ro (.pair .ro (.pair .ro (.pair (.own 60 .ro) (.own 132 .ro))))), .val (.int .i64) .ro], [(D.tDispatcher, (.pair .ro (.pair .ro (.pair .ro (.pair (.own 60 .ro) (.own 132 .ro))))))]⟩
def call (d : D.Dispatcher) (i : Int) (Q : D.Dispatcher → Prop) : Prop := CallsT P 189 sg (d, i, true) (fun r o => Q r.1)
end impl_Dispatcher_without
namespace spec_l12Idle
def sg : Sig := ⟨[.val D.tDispatcher .ro, .val (.int .i64) .ro], [(.bool, .ro)]⟩
def call (d : D.Dispatcher) (job : Int) (Q : Bool → Prop) : Prop := CallsT P 190 sg (d, job, true) (fun r o => Q r.1)
end spec_l12Idle
namespace spec_l12Used
def sg : Sig := ⟨[.val D.tDispatcher .ro, .val (.int .i64) .ro], [(.bool, .ro)]⟩
def call (d : D.Dispatcher) (machine : Int) (Q : Bool → Prop) : Prop := CallsT P 191 sg (d, machine, true) (fun r o => Q r.1)
end spec_l12Used
namespace spec_l12Step
def sg : Sig := ⟨[.val D.tDispatcher .ro], [(D.tDispatcher, (.pair .ro (.pair .ro (.pair .ro (.pair (.own 60 .ro) (.own 132 .ro))))))]⟩
def call (d : D.Dispatcher) (Q : D.Dispatcher → Prop) : Prop := CallsT P 192 sg (d, true) (fun r o => Q r.1)
end spec_l12Step
namespace impl_Dispatcher_running
def sg : Sig := ⟨[.val D.tDispatcher .ro], [((.sl (.int .i64)), (.own 3 .ro))]⟩
def call (d : D.Dispatcher) (Q : List (Int) → Prop) : Prop := CallsT P 194 sg (d, true) (fun r o => Q r.1)
end impl_Dispatcher_running
namespace impl_Dispatcher_picked
def sg : Sig := ⟨[.val D.tDispatcher .ro], [((.int .i64), .ro)]⟩
def call (d : D.Dispatcher) (Q : Int → Prop) : Prop := CallsT P 195 sg (d, true) (fun r o => Q r.1)
end impl_Dispatcher_picked
namespace spec_l12Task
def sg : Sig := ⟨[.val D.tDispatcher .ro, .val (.int .i64) .ro], [(.bool, .ro)]⟩
def call (d : D.Dispatcher) (job : Int) (Q : Bool → Prop) : Prop := CallsT P 196 sg (d, job, true) (fun r o => Q r.1)
end spec_l12Task
namespace spec_l12First
def sg : Sig := ⟨[.val D.tDispatcher .ro], [((.int .i64), .ro)]⟩
def call (d : D.Dispatcher) (Q : Int → Prop) : Prop := CallsT P 197 sg (d, true) (fun r o => Q r.1)
end spec_l12First
namespace spec_l12Running
def sg : Sig := ⟨[.val D.tDispatcher .ro, .val (.int .i64) .ro], [((.int .i64), .ro)]⟩
def call (d : D.Dispatcher) (machine : Int) (Q : Int → Prop) : Prop := CallsT P 198 sg (d, machine, true) (fun r o => Q r.1)
end spec_l12Running
namespace impl_Dispatcher_waiting
def sg : Sig := ⟨[.val D.tDispatcher .ro], [((.sl (.int .i64)), (.own 3 .ro))]⟩
def call (d : D.Dispatcher) (Q : List (Int) → Prop) : Prop := CallsT P 199 sg (d, true) (fun r o => Q r.1)
end impl_Dispatcher_waiting
namespace impl_Dispatcher_rule
def sg : Sig := ⟨[.val D.tDispatcher .ro], [((.int .i64), .ro)]⟩
def call (d : D.Dispatcher) (Q : Int → Prop) : Prop := CallsT P 201 sg (d, true) (fun r o => Q r.1)
end impl_Dispatcher_rule
namespace impl_difference
def sg : Sig := ⟨[.val D.tJob .ro, .val D.tJob .ro, .val (.int .i64) .ro], [((.int .i64), .ro)]⟩
def call (a : D.Job) (b : D.Job) (objective : Int) (Q : Int → Prop) : Prop := CallsT P 200 sg (a, b, objective, true) (fun r o => Q r.1)
end impl_difference
namespace spec_l12Waiting
def sg : Sig := ⟨[.val D.tDispatcher .ro], [((.sl (.int .i64)), (.own 3 .ro))]⟩
def call (d : D.Dispatcher) (Q : List (Int) → Prop) : Prop := CallsT P 202 sg (d, true) (fun r o => Q r.1)
end spec_l12Waiting
namespace spec_l12Ahead
def sg : Sig := ⟨[.val D.tDispatcher .ro, .val (.int .i64) .ro, .val (.int .i64) .ro], [((.int .i64), .ro)]⟩
def call (d : D.Dispatcher) (i : Int) (j : Int) (Q : Int → Prop) : Prop := CallsT P 203 sg (d, i, j, true) (fun r o => Q r.1)
end spec_l12Ahead
namespace spec_l3Gap
def sg : Sig := ⟨[.val (.sl D.tJob) .ro, .val (.int .i64) .ro, .val (.int .i64) .ro, .val (.int .i64) .ro], [((.int .i64), .ro)]⟩
def call (jobs : List (D.Job)) (objective : Int) (i : Int) (j : Int) (Q : Int → Prop) : Prop := CallsT P 204 sg (jobs, objective, i, j, true) (fun r o => Q r.1)
end spec_l3Gap
end Go.Vm
