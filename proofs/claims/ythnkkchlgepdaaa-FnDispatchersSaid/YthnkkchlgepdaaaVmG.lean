/- The evaluator Vm: regions, control, the end of a function: a typed formula out of loaded code. Own work; definitions. No condition. -/
import Derived.Test.YthnkkchlgepdaaaVmF
namespace Go.Vm
open Go.RowKit

/-- what an evaluation is given: the table of types, the signatures, slots that are aliases, parameters that are given back -/
structure Cx where
  T : Tab
  S : SigTab
  al : List Nat
  keep : List Nat

/-- a function over the slots with their numbers -/
def mapIx (f : Nat → Slot → Slot) : Nat → Env → Env
  | _, [] => []
  | i, sl :: l => f i sl :: mapIx f (i + 1) l

def V.links : V → List Nat
  | .ptr l => [l.s]
  | .ref l _ => [l.s]
  | .agg cs => cs.filterMap fun c => match c with | .ref l => some l.s | _ => none
  | .fnc _ caps => caps.map (·.s)
  | .fnl s _ => [s]
  | _ => []

def subL (a b : List Nat) : Bool := a.all fun x => b.contains x
def disj (a b : List Nat) : Bool := a.all fun x => !b.contains x

def keepV (ts : List Nat) (v : V) : V := bif subL v.links ts then v else .dead
/-- the slots that an operation touches, all others shut -/
def restr (ts : List Nat) (env : Env) : Env := mapIx (fun i sl => bif ts.contains i then ⟨sl.now, sl.ver, sl.cver, sl.rev, keepV ts sl.v⟩ else ⟨0, 0, 0, 0, .dead⟩) 0 env
def merge (ws : List Nat) (u env : Env) : Env := mapIx (fun i sl => bif ws.contains i then get u i else sl) 0 env

def guardSlot (ops : Array Oper) (o : Oper) : Option (Nat × Bool) :=
  match o.guard with
  | some (j, b) => ((ops[j]?).bind (·.dst)).map fun g => (g, b)
  | none => none

def touchX (env : Env) : Operand → List Nat
  | .tmp s => s :: (slotV (get env s) s).links
  | _ => []
def touch (ops : Array Oper) (env : Env) (o : Oper) : List Nat :=
  o.dst.toList ++ (match guardSlot ops o with | some (g, _) => [g] | none => []) ++ o.op.operands.toList.flatMap (touchX env)

def Act.ws : Act → List Nat
  | .bad => []
  | .ok _ _ _ ws => ws
  | .call _ _ _ ws _ => ws

def inB : Env → Nat → Bool
  | [], _ => false
  | _ :: _, 0 => true
  | _ :: l, n + 1 => inB l n

def dstOk (cx : Cx) (env : Env) (o : Oper) : Bool := match o.dst with | some d => inB env d && !cx.keep.contains d | none => true

/-- an operation that enters code -/
def opCalls (o : Oper) : Bool :=
  match o.op with
  | .call c => match c.callee with
    | .builtin _ => false
    | _ => true
  | _ => false

/-- an operation that runs, or is left out -/
def gactB (cx : Cx) (o : Oper) (b : Bool) (e : Env) : Act :=
  match b with
  | true => act cx.T cx.S cx.al e o
  | false => match o.dst with
    | some d => .ok none none (e.set d ((get e d).fresh (.tup []))) [d]
    | none => .ok none none e []

/-- whether it runs: by its guard -/
def evGuard (ops : Array Oper) (o : Oper) (env : Env) (go : Env → Bool → Prop) : Prop :=
  match o.guard with
  | none => go env true
  | some _ => match guardSlot ops o with
    | some (g, b) => match (get env g).v with
      | .dat .bool .ro x => cnd x
          (go (env.set g ⟨(get env g).now, (get env g).ver, (get env g).cver, (get env g).rev, .dat .bool .ro true⟩) b)
          (go (env.set g ⟨(get env g).now, (get env g).ver, (get env g).cver, (get env g).rev, .dat .bool .ro false⟩) (!b))
      | .tup [] => go env false
      | _ => False
    | none => False

def evSeq (cx : Cx) (call : CallP) (ops : Array Oper) : List Oper → Env → (Env → Prop) → Prop
  | [], env, K => K env
  | o :: os, env, K => bif dstOk cx env o then evGuard ops o env fun e b => wpAct (fun u _ => u) call (gactB cx o b e) fun e' => evSeq cx call ops os e' K else False

def forceN (n : Nat) (k : Nat → Prop) : Prop := match n with | 0 => k 0 | n + 1 => k (n + 1)
/-- which operations come before operation j in any order, as bits; acc: those of the operations ahead of it, the last first -/
def maskOf (j : Nat) (acc : List Nat) (o : Oper) : Nat :=
  o.after.toList.foldl (fun s e => bif Region.binds .any e && Nat.blt e.on j then s ||| (2 ^ e.on ||| acc.getD (j - 1 - e.on) 0) else s) 0
def maskGo : List Oper → Nat → List Nat → List Nat
  | [], _, acc => acc
  | o :: os, j, acc => maskGo os (j + 1) (maskOf j acc o :: acc)
def withMasks : List Oper → Nat → List Nat → (List Nat → Prop) → Prop
  | [], _, acc, k => k acc
  | o :: os, j, acc, k => forceN (maskOf j acc o) fun m => withMasks os (j + 1) (m :: acc) k
/-- operation i comes before j in any order -/
def anc (n : Nat) (am : List Nat) (j i : Nat) : Bool := Nat.testBit (am.getD (n - 1 - j) 0) i

/-- an operation of a drawn region: its number, what it touches, what it writes, whether it takes a part of results -/
structure TrE where
  j : Nat
  t : List Nat
  w : List Nat
  x : Option (Nat × Nat × Nat)

/-- a part of a call's results taken out: slot, part, where to -/
def opX (o : Oper) : Option (Nat × Nat × Nat) :=
  match o.guard, o.dst, o.op with
  | none, some d, .extract (.tmp s) i => some (s, i, d)
  | _, _, _ => none
def exPair (p q : Option (Nat × Nat × Nat)) : Bool :=
  match p, q with
  | some (s, a, d), some (s', b, d') => (s == s') && (!(a == b) && (!(d == d') && (!(s == d) && !(s == d'))))
  | _, _ => false

/-- p, evaluated ahead of q, may run behind q, or never does -/
def pairOk (n : Nat) (am : List Nat) (p q : TrE) : Bool :=
  (disj p.w q.t && (disj q.w p.t && disj p.w q.w)) || (exPair p.x q.x || anc n am q.j p.j)

def wpActD (fin : Env → Env) (call : CallP) (a : Act) (K : Option Prop → Env → Prop) : Prop :=
  match a with
  | .bad => False
  | .ok none h u _ => K h (fin u)
  | .ok (some p) h u _ => p ∧ K h (fin u)
  | .call g sg x _ k => call g sg x fun r o => K none (fin (k r o))

def forceNs : List Nat → (List Nat → Prop) → Prop
  | [], k => k []
  | x :: xs, k => forceN x fun x => forceNs xs fun xs => k (x :: xs)

/-- the same, with what is written looked at first -/
def wpActW (chk : List Nat → Bool) (fin : List Nat → Env → Env) (call : CallP) (a : Act) (K : List Nat → Option Prop → Env → Prop) : Prop :=
  match a with
  | .bad => False
  | .ok none h u ws => forceNs ws fun ws => bif chk ws then K ws h (fin ws u) else False
  | .ok (some p) h u ws => forceNs ws fun ws => bif chk ws then p ∧ K ws h (fin ws u) else False
  | .call g sg x ws k => forceNs ws fun ws => bif chk ws then call g sg x fun r o => K ws none (fin ws (k r o)) else False

def imps : List Prop → Prop → Prop
  | [], K => K
  | h :: hs, K => h → imps hs K

def evDraw (cx : Cx) (call : CallP) (ops : Array Oper) (am : List Nat) : List Nat → List TrE → List Prop → Env → (Env → Prop) → Prop
  | [], _, hs, env, K => imps hs (K env)
  | j :: js, tr, hs, env, K => match ops[j]? with
    | none => False
    | some o => bif dstOk cx env o then evGuard ops o env fun e b => forceNs (touch ops e o) fun ts =>
          wpActW (fun ws => subL ws ts && tr.all (fun p => pairOk ops.size am p ⟨j, ts, ws, opX o⟩)) (fun ws u => merge ws u e) call (gactB cx o b (restr ts e)) fun ws hyp e' =>
            evDraw cx call ops am js (tr ++ [⟨j, ts, ws, opX o⟩]) (hs ++ hyp.toList) e' K
      else False

/-- an order of evaluation: what enters code as late as can be -/
def canonNext (ops : Array Oper) (done : List Nat) : List Nat → Option Nat → Option Nat
  | [], late => late
  | j :: js, late => match ops[j]? with
    | none => canonNext ops done js late
    | some o => bif o.after.toList.all (fun e => !Region.binds .any e || done.contains e.on) then
        (bif opCalls o then canonNext ops done js (match late with | some i => some i | none => some j) else some j)
      else canonNext ops done js late
def canonGo (ops : Array Oper) : Nat → List Nat → List Nat → List Nat
  | 0, _, _ => []
  | n + 1, done, rest => match canonNext ops done rest none with
    | none => []
    | some j => j :: canonGo ops n (j :: done) (rest.filter fun i => !(i == j))
def canon (ops : Array Oper) : List Nat := canonGo ops ops.size [] (List.range ops.size)
/-- each number once, and none ahead of what it is bound to come behind -/
def topoOk (ops : Array Oper) : List Nat → Bool
  | [] => true
  | j :: js => (match ops[j]? with
      | some o => o.after.toList.all fun e => !Region.binds .any e || (Nat.blt e.on ops.size && !(j :: js).contains e.on)
      | none => false) && topoOk ops js
def callAt (ops : Array Oper) (i : Nat) : Bool := match ops[i]? with | some o => opCalls o | none => false
/-- what stands behind an operation that enters code is bound to come behind it -/
def callOk (ops : Array Oper) (am : List Nat) : List Nat → Bool
  | [] => true
  | i :: js => (!callAt ops i || js.all fun j => anc ops.size am j i) && callOk ops am js
def permOk (ops : Array Oper) (am : List Nat) (js : List Nat) : Bool := nodupB js && ((js.length == ops.size) && (topoOk ops js && callOk ops am js))

def evRegion (cx : Cx) (call : CallP) (ops : Array Oper) (draw : Bool) (env : Env) (K : Env → Prop) : Prop :=
  bif draw then withMasks ops.toList 0 [] (fun am => bif permOk ops am (canon ops) then evDraw cx call ops am (canon ops) [] [] env K else False) else evSeq cx call ops ops.toList env K

/-- a slot as it is told at a cut: dead ones dropped, clocks back, links that still stand -/
abbrev Live := List (Nat × Option (Ty × An))
def liveOk (live : Live) (env : Env) (l : Lk) : Bool :=
  match List.lookup l.s live with
  | some none => true
  | some (some (_, b)) => l.st.isEmpty && (match (get env l.s).v with
      | .dat _ a _ => a.coe b
      | .box _ a _ => a.coe b
      | _ => false)
  | none => false
def normV (live : Live) (env : Env) (want : Option (Ty × An)) (v : V) : V :=
  match v, want with
  | .dat t a x, none => .dat t a x
  | .dat t a x, some (_, b) => bif a.coe b then .dat t b x else .dead
  | .box t a x, none => .box t a x
  | .box t a x, some (_, b) => bif a.coe b then .box t b x else .dead
  | .nil, some (.sl e, a) => .dat (.sl e) a []
  | .nil, none => .nil
  | .ptr l, _ => bif freshP env l && liveOk live env l then .ptr ⟨l.s, 0, l.st, l.off⟩ else .dead
  | .ref l c, _ => bif freshR env l && liveOk live env l then .ref ⟨l.s, 0, l.st, l.off⟩ c else .dead
  | .fnc f ls, _ => bif ls.all (fun l => freshP env l && liveOk live env l) then .fnc f (ls.map fun l => ⟨l.s, 0, l.st, l.off⟩) else .dead
  | .fnv f ds, _ => .fnv f ds
  | .fnl s t, _ => bif Nat.ble (get env s).ver t then .fnl s 0 else .dead
  | .tup ds, _ => .tup ds
  | _, _ => .dead

def norm (live : Live) (env : Env) : Env :=
  mapIx (fun i sl => match List.lookup i live with
    | some want => ⟨0, 0, 0, 0, normV live env want sl.v⟩
    | none => ⟨0, 0, 0, 0, .dead⟩) 0 env

/-- a result variable that lies in memory -/
def cellV (T : Tab) (env : Env) (s : Nat) (t : TypeId) : Option V :=
  match T.at t with
  | some ti => match (get env s).v with
    | .box _ _ _ => (rdP env ⟨s, (get env s).now, [], 0⟩ ti.ty.sz).bind fun dd =>
        bif dd.t.isPair == ti.ty.isPair then some (seen dd fun o => ⟨s, (get env s).now, [], o⟩) else none
    | _ => none
  | none => none

/-- the results -/
def resVs (T : Tab) (env : Env) : List ResultVar → Option (List V)
  | [] => some []
  | .tmp t :: rs => (resVs T env rs).map fun vs => opnd env (.tmp t) :: vs
  | .cell s t :: rs => (cellV T env s t).bind fun v => (resVs T env rs).map fun vs => v :: vs

def takeRes (e0 : Env) : Env → List (Ty × An) → List V → Option (List (Σ t : Ty, t.den) × Env)
  | env, [], [] => some ([], env)
  | env, (t, a) :: rs, v :: vs => (takeV e0 env t a v).bind fun p => bif p.a.coe a then (takeRes e0 p.env rs vs).map fun q => (⟨t, p.x⟩ :: q.1, q.2) else none
  | _, _, _ => none

def takeOuts (env : Env) : Nat → List Par → Option (List (Σ t : Ty, t.den))
  | _, [] => some []
  | j, .val _ _ :: ps => takeOuts env (j + 1) ps
  | j, .io t a :: ps => match (get env j).v with
    | .box u b x => (Dat.as ⟨u, b, x⟩ t).bind fun p => bif p.1.coe a then (takeOuts env (j + 1) ps).map fun r => ⟨t, p.2⟩ :: r else none
    | _ => none
  | j, .iol e el a :: ps => match (get env j).v with
    | .dat u b x => (Dat.as ⟨u, b, x⟩ (.sl e)).bind fun p => bif p.1.coe (.own el a) then (takeOuts env (j + 1) ps).map fun r => ⟨.sl e, p.2⟩ :: r else none
    | _ => none
  | j, .fn f caps :: ps => match (get env j).v with
    | .fnv g ds => bif g == f then (capDats caps ds).bind fun q => (takeOuts env (j + 1) ps).map fun r => q ++ r else none
    | _ => none

def evRet (T : Tab) (sg : Sig) (fn : Func) (Post : sg.resT.den → sg.outT.den → Prop) (env : Env) : Prop :=
  match resVs T env fn.results.toList with
  | some vs => match takeRes env env sg.res vs with
    | some (ds, e) => match tie (sg.res.map (·.1)) ds, (takeOuts e 0 sg.pars).bind (tie (sg.pars.flatMap Par.outT)) with
        | some r, some o => Post r o
        | _, _ => False
    | none => False
  | none => False

abbrev Cuts := List (Nat × Live)

/-- the slots of parameters that are given back -/
def keepOf : Nat → List Par → List Nat
  | _, [] => []
  | j, .val _ _ :: ps => keepOf (j + 1) ps
  | j, _ :: ps => j :: keepOf (j + 1) ps
def cxOf (T : Tab) (S : SigTab) (al : List Nat) (sg : Sig) : Cx := ⟨T, S, al, keepOf 0 sg.pars⟩

/-- control: the formula of what is still to do. At a region that is a cut the rest is spoken of by C. -/
def evT (cx : Cx) (call : CallP) (sg : Sig) (fn : Func) (Post : sg.resT.den → sg.outT.den → Prop) (cuts : Cuts) (C : List Item → Env → Prop) : Nat → Bool → List Item → Env → Prop
  | 0, _, _, _ => False
  | n + 1, first, todo, env =>
    match todo with
    | [] => evRet cx.T sg fn Post env
    | .code .skip :: k => evT cx call sg fn Post cuts C n first k env
    | .code (.seq a b) :: k => evT cx call sg fn Post cuts C n first (.code a :: .code b :: k) env
    | .code (.cond c a b) :: k => match opnd env c with
      | .dat .bool .ro x => cnd x (evT cx call sg fn Post cuts C n first (.code a :: k) env) (evT cx call sg fn Post cuts C n first (.code b :: k) env)
      | _ => False
    | .code (.block id c) :: k => evT cx call sg fn Post cuts C n first (.code c :: .inBlock id :: k) env
    | .inBlock _ :: k => evT cx call sg fn Post cuts C n first k env
    | .code (.loop c) :: k => evT cx call sg fn Post cuts C n first (.code c :: .inLoop c :: k) env
    | .inLoop c :: k => evT cx call sg fn Post cuts C n first (.code c :: .inLoop c :: k) env
    | .code (.exit id) :: k => match exitTo id k with
      | some k' => evT cx call sg fn Post cuts C n first k' env
      | none => False
    | .code .ret :: _ => evRet cx.T sg fn Post env
    | .code (.region id ops draw) :: k =>
      match (bif first then none else List.lookup id cuts) with
      | some live => C (.code (.region id ops draw) :: k) (norm live env)
      | none => evRegion cx call ops draw env fun e => evT cx call sg fn Post cuts C n false k e
    | _ => False

/-- what is to do from a region on -/
def todoAt (id : Nat) : Nat → List Item → Option (List Item)
  | 0, _ => none
  | n + 1, todo =>
    match todo with
    | [] => none
    | .code (.region i ops draw) :: k => bif i == id then some (.code (.region i ops draw) :: k) else todoAt id n k
    | .code (.seq a b) :: k => todoAt id n (.code a :: .code b :: k)
    | .code (.cond _ a b) :: k => match todoAt id n (.code a :: k) with
      | some r => some r
      | none => todoAt id n (.code b :: k)
    | .code (.block i c) :: k => todoAt id n (.code c :: .inBlock i :: k)
    | .code (.loop c) :: k => todoAt id n (.code c :: .inLoop c :: k)
    | .inLoop _ :: k => todoAt id n k
    | .inBlock _ :: k => todoAt id n k
    | .code _ :: k => todoAt id n k
    | _ => none

def bodyOf (fn : Func) : List Item := match fn.body with | some c => [.code c] | none => []
def todoOf (fn : Func) (id : Nat) : List Item := (todoAt id 100000 (bodyOf fn)).getD []

/-- the slots when a function is entered -/
def entryVs : List Par → List (Σ t : Ty, t.den) → List V
  | .val _ a :: ps, ⟨t, x⟩ :: ds => .dat t a x :: entryVs ps ds
  | .io _ a :: ps, ⟨t, x⟩ :: ds => .box t a x :: entryVs ps ds
  | .iol _ el a :: ps, ⟨t, x⟩ :: ds => .dat t (.own el a) x :: entryVs ps ds
  | .fn f caps :: ps, ds => .fnv f (toDats caps ds) :: entryVs ps (ds.drop caps.length)
  | _, _ => []
def entry (sg : Sig) (fn : Func) (x : sg.argT.den) : Env :=
  let vs := (entryVs sg.pars (unt (sg.pars.flatMap Par.inT) x)).map fun v => (⟨0, 0, 0, 0, v⟩ : Slot)
  vs ++ List.replicate (fn.ntmps - vs.length) ⟨0, 0, 0, 0, .dead⟩

def envOf (n : Nat) (vs : List (Nat × V)) : Env := (List.range n).map fun i => ⟨0, 0, 0, 0, (List.lookup i vs).getD .dead⟩

end Go.Vm
