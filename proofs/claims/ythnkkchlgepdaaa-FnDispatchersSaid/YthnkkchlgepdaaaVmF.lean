/- The evaluator Vm: what an operation does to what is known of a frame. Own work; definitions. No condition. -/
import Derived.Test.YthnkkchlgepdaaaVmE
namespace Go.Vm
open Go.RowKit
set_option linter.unusedVariables false

/-- what the evaluator knows of a type: its data, how a variable of it is owned, whether it is an array, the places of fields (of elements), whether its values are compared -/
structure TI where
  ty : Ty
  an : An
  arr : Bool
  offs : List Nat
  cmp : Bool

def Ty.isPair : Ty → Bool
  | .pair _ _ => true
  | _ => false

abbrev Tab := List (Nat × TI)
def Tab.at (T : Tab) (t : TypeId) : Option TI := List.lookup t T

/-- how a parameter comes in: data, a variable behind a pointer, a slice that is written in place, a function value with captured variables -/
inductive Par where
  | val (t : Ty) (a : An)
  | io (t : Ty) (a : An)
  | iol (e : Ty) (el : TypeId) (a : An)
  | fn (f : FuncId) (caps : List (Ty × An))

def tysOf : List Ty → Ty
  | [] => .bool
  | t :: ts => .pair t (tysOf ts)

def Par.inT : Par → List Ty
  | .val t _ => [t]
  | .io t _ => [t]
  | .iol e _ _ => [.sl e]
  | .fn _ caps => caps.map (·.1)
def Par.outT : Par → List Ty
  | .val _ _ => []
  | .io t _ => [t]
  | .iol e _ _ => [.sl e]
  | .fn _ caps => caps.map (·.1)

structure Sig where
  pars : List Par
  res : List (Ty × An)

def Sig.argT (s : Sig) : Ty := tysOf (s.pars.flatMap Par.inT)
def Sig.outT (s : Sig) : Ty := tysOf (s.pars.flatMap Par.outT)
def Sig.resT (s : Sig) : Ty := tysOf (s.res.map (·.1))

/-- data of several types, untied -/
def unt : (ts : List Ty) → (tysOf ts).den → List (Σ t : Ty, t.den)
  | [], _ => []
  | t :: ts, x => ⟨t, x.1⟩ :: unt ts x.2

/-- data of several types, tied -/
def tie : (ts : List Ty) → List (Σ t : Ty, t.den) → Option (tysOf ts).den
  | [], _ => some true
  | t :: ts, d :: ds => if h : d.1 = t then (tie ts ds).map fun y => (h ▸ d.2, y) else none
  | _ :: _, [] => none

def An.plain : An → Bool
  | .ro => true
  | .pair a b => a.plain && b.plain
  | _ => false

/-- may be taken for less: what is owned for what is only read -/
def An.coe : An → An → Bool
  | .ro, b => b.plain
  | .hole, b => match b with | .hole => true | _ => false
  | .own e a, b => match b with | .ro => a.ok | .own f c => (e == f) && a.coe c | _ => false
  | .pair a b, c => match c with | .ro => a.ok && b.ok | .pair d e => a.coe d && b.coe e | _ => false

/-- the weaker one of two -/
def An.join (a b : An) : An := if a = b then a else .ro

def Slot.fresh (sl : Slot) (v : V) : Slot := ⟨sl.now + 1, sl.now + 1, sl.now + 1, sl.now + 1, v⟩
def Slot.form (sl : Slot) (v : V) : Slot := ⟨sl.now + 1, sl.ver, sl.now + 1, sl.now + 1, v⟩
def Slot.cont (sl : Slot) (v : V) : Slot := ⟨sl.now + 1, sl.ver, sl.cver, sl.now + 1, v⟩

/-- a struct's value, cell by cell -/
def view (mk : Nat → Lk) : (t : Ty) → An → t.den → Nat → List Cel
  | .pair t u, a, x, o => view mk t a.l x.1 o ++ view mk u a.r x.2 (o + t.sz)
  | .int k, a, x, _ => match a with | .hole => [.bad] | _ => [.d (.int k) x]
  | .bool, a, x, _ => match a with | .hole => [.bad] | _ => [.d .bool x]
  | .str, a, x, _ => match a with | .hole => [.bad] | _ => [.d .str x]
  | .sl e, a, x, o => match a with | .hole => [.bad] | .own _ _ => [.ref (mk o)] | _ => [.d (.sl e) x]

/-- data at a place, as a value -/
def seen (d : Dat) (mk : Nat → Lk) : V :=
  match d with
  | ⟨.sl _, .own _ _, _⟩ => .ref (mk 0) none
  | ⟨.pair t u, a, x⟩ => bif a.plain then .dat (.pair t u) .ro x else .agg (view mk (.pair t u) a x 0)
  | ⟨_, .hole, _⟩ => .dead
  | ⟨t, _, x⟩ => .dat t .ro x

def constV : Value → V
  | .int k n => bif decide (k.min ≤ n) && decide (n ≤ k.max) then .dat (.int k) .ro n else .dead
  | .bool b => .dat .bool .ro b
  | .string s => bif Nat.ble s.size maxEl then .dat .str .ro s else .dead
  | .slice none 0 0 => .nil
  | _ => .dead

def slotV (sl : Slot) (s : Nat) : V :=
  match sl.v with
  | .dat t a x => seen ⟨t, a, x⟩ fun o => ⟨s, sl.now, [], o⟩
  | .box _ _ _ => .ptr ⟨s, sl.now, [], 0⟩
  | .fnv _ _ => .fnl s sl.now
  | .tup _ => .dead
  | v => v

def opnd (env : Env) : Operand → V
  | .tmp s => slotV (get env s) s
  | .const c => constV c
  | .func f => .fnc f []
  | .global _ => .dead

def V.obj? : V → Option Dat
  | .dat t a x => some ⟨t, a, x⟩
  | .box t a x => some ⟨t, a, x⟩
  | _ => none

/-- the data at a place of n cells -/
def rdP (env : Env) (l : Lk) (n : Nat) : Option Dat :=
  bif freshP env l then ((get env l.s).v.obj?.bind (getP · l.st)).bind fun d => sub d.t d.a d.x l.off n else none

/-- the slice at a place -/
def rdR (env : Env) (l : Lk) : Option Dat :=
  bif freshR env l then ((get env l.s).v.obj?.bind (getP · l.st)).bind fun d => sub d.t d.a d.x l.off 1 else none

def cutL {α : Type} (xs : List α) : Option (Nat × Nat × Nat) → List α
  | none => xs
  | some (lo, n, _) => (xs.drop lo).take n

def cutSz (cut : Option (Nat × Nat × Nat)) (n : Nat) : Bool := match cut with | none => true | some (_, _, z) => z == n
def cutLo : Option (Nat × Nat × Nat) → Nat
  | none => 0
  | some (lo, _, _) => lo

/-- the slice at cell off of a slot's object is moved out -/
def pull (env : Env) (s off : Nat) : Option (Dat × Env) :=
  match (get env s).v with
  | .dat t a x => (sub t a x off 1).bind fun d => match d with
    | ⟨u, .own el b, y⟩ => (upd t a x off 1 ⟨u, .hole, y⟩).map fun p => (⟨u, .own el b, y⟩, env.set s ((get env s).form (.dat t p.1 p.2)))
    | _ => none
  | .box t a x => (sub t a x off 1).bind fun d => match d with
    | ⟨u, .own el b, y⟩ => (upd t a x off 1 ⟨u, .hole, y⟩).map fun p => (⟨u, .own el b, y⟩, env.set s ((get env s).form (.box t p.1 p.2)))
    | _ => none
  | _ => none

structure Took (t : Ty) where
  a : An
  x : t.den
  env : Env
  ws : List Nat

def takeL (e0 : Env) (t : Ty) (env : Env) (cs : List Cel) : Option (Took t × List Cel) :=
  match cs with
  | .d u x :: cs => (Dat.as ⟨u, .ro, x⟩ t).map fun p => (⟨p.1, p.2, env, []⟩, cs)
  | .ref l :: cs => bif l.st.isEmpty && freshR e0 l then (pull env l.s l.off).bind fun d => (d.1.as t).map fun p => (⟨p.1, p.2, d.2, [l.s]⟩, cs) else none
  | _ => none

/-- the data of a struct's value, moved out of its places; e0: where the links must stand -/
def takeC (e0 : Env) : (t : Ty) → Env → List Cel → Option (Took t × List Cel)
  | .pair t u, env, cs => (takeC e0 t env cs).bind fun p => (takeC e0 u p.1.env p.2).map fun q => (⟨An.mkp p.1.a q.1.a, (p.1.x, q.1.x), q.1.env, p.1.ws ++ q.1.ws⟩, q.2)
  | .int k, env, cs => takeL e0 (.int k) env cs
  | .bool, env, cs => takeL e0 .bool env cs
  | .str, env, cs => takeL e0 .str env cs
  | .sl e, env, cs => takeL e0 (.sl e) env cs

def nilAn : An → An
  | .own el a => .own el a
  | _ => .ro

/-- the data of a value that is stored or handed on -/
def takeV (e0 env : Env) (t : Ty) (an : An) (v : V) : Option (Took t) :=
  match v with
  | .dat u a x => (Dat.as ⟨u, a, x⟩ t).map fun p => ⟨p.1, p.2, env, []⟩
  | .ref l none => (takeC e0 t env [.ref l]).map (·.1)
  | .agg cs => match t with
    | .pair t1 t2 => (takeC e0 (.pair t1 t2) env cs).bind fun p => match p.2 with | [] => some p.1 | _ => none
    | _ => none
  | .nil => match t with
    | .sl _ => some ⟨nilAn an, [], env, []⟩
    | _ => none
  | _ => none

/-- what an operation does -/
inductive Act where
  | bad
  | ok (pre hyp : Option Prop) (env : Env) (ws : List Nat)
  | call (g : FuncId) (sg : Sig) (x : sg.argT.den) (ws : List Nat) (k : sg.resT.den → sg.outT.den → Env)

/-- a slot gets a value -/
def put (env : Env) (d : Nat) (pre hyp : Option Prop) (ws : List Nat) (v : V) : Act := .ok pre hyp (env.set d ((get env d).fresh v)) (ws ++ [d])

/-- a slot gets a value that owns nothing -/
def mv (env : Env) (d : Nat) (v : V) : Act :=
  match v with
  | .dead => .bad
  | v => put env d none none [] v

def mvMove (env : Env) (d : Nat) (x : Operand) : Act :=
  match x with
  | .tmp s => match (get env s).v with
    | .tup ds => bif s == d then .bad else put (env.set s ((get env s).fresh .dead)) d none none [s] (.tup ds)
    | _ => mv env d (opnd env x)
  | _ => mv env d (opnd env x)

def assign (env : Env) (al : List Nat) (d : Nat) (x : Operand) : Act :=
  match opnd env x with
  | .ref l none =>
    bif al.contains d then mv env d (.ref l none)
    else bif l.s == d then (bif freshR env l && l.st.isEmpty && (l.off == 0) then (match (get env d).v with | .dat (.sl _) _ _ => .ok none none env [d] | _ => .bad) else .bad)
    else bif l.st.isEmpty && freshR env l then match pull env l.s l.off with
      | some p => put p.2 d none none [l.s] (.dat p.1.t p.1.a p.1.x)
      | none => .bad
    else .bad
  | v => mv env d v

/-- a number of its kind; what must hold that it is one -/
def wrapI (k : IntKind) (n : Int) : Option Prop × Int :=
  match k with
  | .i64 => (some (-9223372036854775808 ≤ n ∧ n ≤ 9223372036854775807), n)
  | k => (none, k.wrap n)

def numb (env : Env) (d : Nat) (k : IntKind) (n : Int) : Act := put env d (wrapI k n).1 none [] (.dat (.int k) .ro (wrapI k n).2)

def yes (env : Env) (d : Nat) (b : Bool) : Act := put env d none none [] (.dat .bool .ro b)

def tyEq : (t : Ty) → t.den → t.den → Bool
  | .int _, x, y => decide (x = y)
  | .bool, x, y => x == y
  | .str, x, y => decide (x = y)
  | .pair t u, x, y => tyEq t x.1 y.1 && tyEq u x.2 y.2
  | .sl _, _, _ => false
def Ty.flat : Ty → Bool
  | .pair t u => t.flat && u.flat
  | .sl _ => false
  | _ => true

def intOp (env : Env) (d : Nat) (op : BinOp) (k : IntKind) (a b : Int) : Act :=
  match op with
  | .add => numb env d k (a + b)
  | .sub => numb env d k (a - b)
  | .mul => numb env d k (a * b)
  | .quo => bif k == .i64 then put env d (some (b ≠ 0 ∧ -9223372036854775808 < a)) none [] (.dat (.int k) .ro (Int.tdiv a b)) else .bad
  | .rem => bif k == .i64 then put env d (some (b ≠ 0)) none [] (.dat (.int k) .ro (Int.tmod a b)) else .bad
  | .eql => yes env d (decide (a = b))
  | .neq => yes env d (decide (a ≠ b))
  | .lss => yes env d (decide (a < b))
  | .leq => yes env d (decide (a ≤ b))
  | .gtr => yes env d (decide (b < a))
  | .geq => yes env d (decide (b ≤ a))
  | .and => put env d none none [] (.dat (.int k) .ro (k.wrap ((BitVec.ofInt k.bits a &&& BitVec.ofInt k.bits b).toNat : Int)))
  | .or => put env d none none [] (.dat (.int k) .ro (k.wrap ((BitVec.ofInt k.bits a ||| BitVec.ofInt k.bits b).toNat : Int)))
  | .xor => put env d none none [] (.dat (.int k) .ro (k.wrap ((BitVec.ofInt k.bits a ^^^ BitVec.ofInt k.bits b).toNat : Int)))
  | .andNot => put env d none none [] (.dat (.int k) .ro (k.wrap ((BitVec.ofInt k.bits a &&& ~~~BitVec.ofInt k.bits b).toNat : Int)))
  | _ => .bad

def shiftOp (env : Env) (d : Nat) (op : BinOp) (k : IntKind) (a b : Int) : Act :=
  match op with
  | .shl => put env d (some (0 ≤ b)) none [] (.dat (.int k) .ro (k.wrap (a * 2 ^ (min b.toNat k.bits))))
  | .shr => put env d (some (0 ≤ b)) none [] (.dat (.int k) .ro (a.fdiv (2 ^ (min b.toNat k.bits))))
  | _ => .bad

def BinOp.isShift : BinOp → Bool
  | .shl => true
  | .shr => true
  | _ => false

def eqOp (env : Env) (d : Nat) (op : BinOp) (b : Bool) : Act :=
  match op with
  | .eql => yes env d b
  | .neq => yes env d (!b)
  | _ => .bad

def binop (T : Tab) (env : Env) (d : Nat) (op : BinOp) (t : TypeId) (x y : V) : Act :=
  match x, y with
  | .dat (.int k) _ a, .dat (.int k') _ b => bif BinOp.isShift op then shiftOp env d op k a b else bif k == k' then intOp env d op k a b else .bad
  | .dat u a x, .dat v b y => match T.at t with
    | some ti => match Dat.as ⟨u, a, x⟩ ti.ty, Dat.as ⟨v, b, y⟩ ti.ty with
      | some p, some q => bif ti.cmp then eqOp env d op (tyEq ti.ty p.2 q.2) else .bad
      | _, _ => .bad
    | none => .bad
  | _, _ => .bad

/-- the parts of a slice literal, in order -/
def takeAll (e0 : Env) (e : Ty) (an : An) : Env → List V → Option (An × List e.den × Env × List Nat)
  | env, [] => some (an, [], env, [])
  | env, v :: vs => (takeV e0 env e an v).bind fun p => (takeAll e0 e p.a p.env vs).bind fun q =>
      bif decide (p.a = q.1) then some (p.a, p.x :: q.2.1, q.2.2.1, p.ws ++ q.2.2.2) else none

/-- the fields of a struct literal -/
def takeFields (e0 : Env) (offs : List Nat) : Env → List (Nat × V) → Dat → Option (Dat × Env × List Nat)
  | env, [], d => some (d, env, [])
  | env, (i, v) :: ps, d => (offs[i]?).bind fun o => (sub d.t d.a d.x o ((offs[i + 1]?).getD d.t.sz - o)).bind fun c =>
      (takeV e0 env c.t c.a v).bind fun q => (upd d.t d.a d.x o c.t.sz ⟨c.t, q.a, q.x⟩).bind fun r =>
        (takeFields e0 offs q.env ps ⟨d.t, r.1, r.2⟩).map fun z => (z.1, z.2.1, q.ws ++ z.2.2)

def optInt (env : Env) : Option Operand → Option (Option Int)
  | none => some none
  | some x => match opnd env x with
    | .dat (.int .i64) _ n => some (some n)
    | _ => none

def Ty.hasRo : (t : Ty) → An → Bool
  | .pair t u, a => t.hasRo a.l || u.hasRo a.r
  | .sl e, .own _ a => e.hasRo a
  | .sl _, _ => true
  | _, _ => false

/-- what a call gives back: variables, rows, captured variables -/
inductive Back where
  | box (s : Nat) (t : Ty) (a : An)
  | row (s : Nat) (e : Ty) (el : TypeId) (a : An)
  | clo (s : Nat) (f : FuncId) (caps : List (Ty × An))
def Back.s : Back → Nat
  | .box s _ _ => s
  | .row s _ _ _ => s
  | .clo s _ _ => s

structure Pass where
  data : List (Σ t : Ty, t.den)
  env : Env
  ws : List Nat
  back : List Back
  bor : List Nat

def lendL (env : Env) (t : Ty) (cs : List Cel) : Option (t.den × List Nat × List Cel) :=
  match cs with
  | .d u x :: cs => (Dat.as ⟨u, .ro, x⟩ t).map fun p => (p.2, [], cs)
  | .ref l :: cs => (rdR env l).bind fun d => match d with
      | ⟨u, .own _ a, x⟩ => bif a.ok then (Dat.as ⟨u, .ro, x⟩ t).map fun p => (p.2, [l.s], cs) else none
      | _ => none
  | _ => none

/-- data of a struct's value, lent -/
def lendC (env : Env) : (t : Ty) → List Cel → Option (t.den × List Nat × List Cel)
  | .pair t u, cs => (lendC env t cs).bind fun p => (lendC env u p.2.2).map fun q => ((p.1, q.1), p.2.1 ++ q.2.1, q.2.2)
  | .int k, cs => lendL env (.int k) cs
  | .bool, cs => lendL env .bool cs
  | .str, cs => lendL env .str cs
  | .sl e, cs => lendL env (.sl e) cs

def capBoxes (env : Env) : List (Ty × An) → List Lk → Option (List (Σ t : Ty, t.den) × List Back)
  | [], [] => some ([], [])
  | (t, a) :: cs, l :: ls => bif freshP env l && l.st.isEmpty && (l.off == 0) then match (get env l.s).v with
      | .box u b x => (Dat.as ⟨u, b, x⟩ t).bind fun p => bif p.1.coe a then (capBoxes env cs ls).map fun q => (⟨t, p.2⟩ :: q.1, .box l.s t a :: q.2) else none
      | _ => none
    else none
  | _, _ => none

def capDats : List (Ty × An) → List Dat → Option (List (Σ t : Ty, t.den))
  | [], [] => some []
  | (t, a) :: cs, d :: ds => (d.as t).bind fun p => bif p.1.coe a then (capDats cs ds).map fun q => ⟨t, p.2⟩ :: q else none
  | _, _ => none

def passVal (env : Env) (t : Ty) (v : V) : Option (t.den × List Nat) :=
  match v with
  | .dat u b x => bif b.plain then (Dat.as ⟨u, b, x⟩ t).map fun p => (p.2, []) else none
  | .ref l cut => match rdR env l with
    | some ⟨.sl e, .own _ ae, xs⟩ => bif ae.ok && cutSz cut e.sz then (Dat.as ⟨.sl e, .ro, cutL xs cut⟩ t).map fun p => (p.2, [l.s]) else none
    | _ => none
  | .agg cs => match t with
    | .pair t1 t2 => (lendC env (.pair t1 t2) cs).bind fun p => match p.2.2 with | [] => some (p.1, p.2.1) | _ => none
    | _ => none
  | .nil => match t with | .sl _ => some ([], []) | _ => none
  | _ => none

def passOne (e0 env : Env) (p : Par) (v : V) : Option Pass :=
  match p with
  | .val t a =>
    bif a.plain then (passVal e0 t v).map fun q => ⟨[⟨t, q.1⟩], env, [], [], q.2⟩
    else (takeV e0 env t a v).bind fun q => bif q.a.coe a then some ⟨[⟨t, q.x⟩], q.env, q.ws, [], []⟩ else none
  | .io t a => match v with
    | .ptr l => (capBoxes e0 [(t, a)] [l]).map fun q => ⟨q.1, env, [], q.2, []⟩
    | _ => none
  | .iol e el a => match v with
    | .ref l none => bif freshR e0 l && l.st.isEmpty && (l.off == 0) then match (get e0 l.s).v with
        | .dat (.sl u) (.own f b) xs => (Dat.as ⟨.sl u, .own f b, xs⟩ (.sl e)).bind fun p => bif p.1.coe (.own el a) then some ⟨[⟨.sl e, p.2⟩], env, [], [.row l.s e el a], []⟩ else none
        | _ => none
      else none
    | _ => none
  | .fn f caps => match v with
    | .fnc g ls => bif g == f then (capBoxes e0 caps ls).map fun q => ⟨q.1, env, [], q.2, []⟩ else none
    | .fnl s t => bif Nat.ble (get e0 s).ver t then match (get e0 s).v with
        | .fnv g ds => bif g == f then (capDats caps ds).map fun q => ⟨q, env, [], [.clo s f caps], []⟩ else none
        | _ => none
      else none
    | _ => none

def passAll (e0 : Env) : Env → List Par → List V → Option Pass
  | env, [], [] => some ⟨[], env, [], [], []⟩
  | env, p :: ps, v :: vs => (passOne e0 env p v).bind fun a => (passAll e0 a.env ps vs).map fun b => ⟨a.data ++ b.data, b.env, a.ws ++ b.ws, a.back ++ b.back, a.bor ++ b.bor⟩
  | _, _, _ => none

def toDats : List (Ty × An) → List (Σ t : Ty, t.den) → List Dat
  | (_, a) :: cs, ⟨t, x⟩ :: ds => ⟨t, a, x⟩ :: toDats cs ds
  | _, _ => []

/-- the slots behind a call -/
def giveBack : Env → List Back → List (Σ t : Ty, t.den) → Env
  | env, .box s _ a :: bs, ⟨u, x⟩ :: ds => giveBack (env.set s ((get env s).form (.box u a x))) bs ds
  | env, .row s _ el a :: bs, ⟨u, x⟩ :: ds => giveBack (env.set s ((get env s).form (.dat u (.own el a) x))) bs ds
  | env, .clo s f caps :: bs, ds => giveBack (env.set s ((get env s).form (.fnv f (toDats caps ds)))) bs (ds.drop caps.length)
  | env, _, _ => env

/-- what was lent is only read from here on -/
def freeze (sl : Slot) : Slot :=
  match sl.v with
  | .dat t _ x => sl.form (.dat t .ro x)
  | .box t _ x => sl.form (.box t .ro x)
  | _ => sl
def V.frz : V → Bool
  | .dat _ a _ => a.ok
  | _ => false
def freezeAll : Env → List Nat → Env
  | env, [] => env
  | env, s :: ss => freezeAll (env.set s (freeze (get env s))) ss

def resV : List (Ty × An) → List (Σ t : Ty, t.den) → V
  | [(_, a)], [⟨t, x⟩] => .dat t a x
  | cs, ds => .tup (toDats cs ds)

abbrev SigTab := List ((FuncId × List FuncId) × Sig)
def fnsOf (env : Env) : List V → List FuncId
  | [] => []
  | .fnc f _ :: vs => f :: fnsOf env vs
  | .fnl s _ :: vs => match (get env s).v with | .fnv f _ => f :: fnsOf env vs | _ => fnsOf env vs
  | .ptr l :: vs => match (get env l.s).v with
    | .box t a _ => bif t.hasRo .ro && !t.hasRo a then 1000000 :: fnsOf env vs else fnsOf env vs
    | _ => fnsOf env vs
  | _ :: vs => fnsOf env vs

def nodupB : List Nat → Bool
  | [] => true
  | x :: xs => !xs.contains x && nodupB xs

/-- what comes back by a parameter may read what was lent -/
def Par.outRo : Par → Bool
  | .val _ _ => false
  | .io t a => t.hasRo a
  | .iol e _ a => e.hasRo a
  | .fn _ caps => caps.any fun c => c.1.hasRo c.2

def callAct (S : SigTab) (env : Env) (d : Nat) (g : FuncId) (args : List V) : Act :=
  match List.lookup (g, fnsOf env args) S with
  | none => .bad
  | some sg => match passAll env env sg.pars args with
    | none => .bad
    | some p => match tie (sg.pars.flatMap Par.inT) p.data with
      | some x =>
        let frz := bif sg.res.any (fun r => r.1.hasRo r.2) || sg.pars.any Par.outRo then p.bor else []
        bif frz.all (fun s => (get p.env s).v.frz) && (p.bor.all (fun s => !p.ws.contains s) && nodupB (p.back.map Back.s) && p.back.all (fun b => !p.bor.contains b.s && !p.ws.contains b.s)) then
          .call g sg x (p.ws ++ p.back.map Back.s ++ frz ++ [d]) fun r o =>
            let e := freezeAll (giveBack p.env p.back (unt (sg.pars.flatMap Par.outT) o)) frz
            e.set d ((get e d).fresh (resV sg.res (unt (sg.res.map (·.1)) r)))
        else .bad
      | none => .bad

/-- append's first operand -/
def takeDst (env : Env) (e : Ty) (el : TypeId) (v : V) : Option (Took (.sl e)) :=
  match v with
  | .ref l cut => bif cutLo cut == 0 then (takeV env env (.sl e) .ro (.ref l none)).bind fun p => match p.a with
      | .own el' a => bif (el' == el) && !(a == .hole) then some ⟨a, cutL p.x cut, p.env, p.ws⟩ else none
      | _ => none
    else none
  | .nil => some ⟨.hole, ([] : List e.den), env, []⟩
  | _ => none

/-- append's second operand; e0: where it is read -/
def takeSrc (e0 env : Env) (e : Ty) (v : V) : Option (Took (.sl e)) :=
  match v with
  | .ref l cut => match rdR e0 l with
      | some ⟨.sl u, .own _ a, ys⟩ =>
        bif !cutSz cut u.sz then none
        else bif a.plain then (Dat.as ⟨.sl u, .ro, cutL ys cut⟩ (.sl e)).map fun r => ⟨r.1, r.2, env, []⟩
        else match cut with
          | none => (takeV e0 env (.sl e) .ro (.ref l none)).bind fun p => match p.a with
            | .own _ a => bif !(a == .hole) then some ⟨a, p.x, p.env, p.ws⟩ else none
            | _ => none
          | some _ => none
      | _ => none
  | .dat (.sl u) .ro ys => (Dat.as ⟨.sl u, .ro, ys⟩ (.sl e)).map fun r => ⟨r.1, r.2, env, []⟩
  | .nil => some ⟨.hole, ([] : List e.den), env, []⟩
  | _ => none

def appendAct (T : Tab) (env : Env) (d : Nat) (t : TypeId) (vs vx : V) : Act :=
  match T.at t with
  | some ti => match ti.ty, ti.an with
    | .sl e, .own el ae0 => match takeDst env e el vs with
      | some p => match takeSrc env p.env e vx with
        | some q =>
          let an := if p.a = .hole then (if q.a = .hole then ae0 else q.a) else if q.a = .hole then p.a else An.join p.a q.a
          bif (p.a == .hole || p.a.coe an) && (q.a == .hole || q.a.coe an) then
            put q.env d (some ((p.x : List e.den).length + (q.x : List e.den).length ≤ 4294967296)) none (p.ws ++ q.ws) (.dat (.sl e) (.own el an) ((p.x : List e.den) ++ (q.x : List e.den))) else .bad
        | none => .bad
      | none => .bad
    | _, _ => .bad
  | none => .bad

def storeAct (T : Tab) (env : Env) (t : TypeId) (va vx : V) : Act :=
  match T.at t, va with
  | some ti, .ptr l => match rdP env l ti.ty.sz with
    | some old => match takeV env env old.t old.a vx with
      | some q => bif q.ws.contains l.s then .bad else
        let f := fun (d : Dat) => (upd d.t d.a d.x l.off ti.ty.sz ⟨old.t, q.a, q.x⟩).map fun p => (⟨d.t, p.1, p.2⟩ : Dat)
        match (get env l.s).v with
          | .box t a x => match putP ⟨t, a, x⟩ l.st f with
            | some dd => .ok none none (q.env.set l.s ((bif old.t.flat && old.a.plain then (get q.env l.s).cont else (get q.env l.s).form) (.box dd.t dd.a dd.x))) (q.ws ++ [l.s])
            | none => .bad
          | .dat t a x => match putP ⟨t, a, x⟩ l.st f with
            | some dd => bif l.st.isEmpty then .bad else .ok none none (q.env.set l.s ((bif old.t.flat && old.a.plain then (get q.env l.s).cont else (get q.env l.s).form) (.dat dd.t dd.a dd.x))) (q.ws ++ [l.s])
            | none => .bad
          | _ => .bad
      | none => .bad
    | none => .bad
  | _, _ => .bad

def lenAct (T : Tab) (env : Env) (d : Nat) (t : TypeId) (v : V) : Act :=
  match T.at t with
  | some ti => match ti.ty with
    | .sl _ => match v with
      | .ref l cut => match rdR env l with
        | some ⟨.sl _, .own _ _, xs⟩ => put env d none (some ((cutL xs cut).length ≤ 281474976710656)) [] (.dat (.int .i64) .ro ((cutL xs cut).length : Int))
        | _ => .bad
      | .dat (.sl e) _ xs => put env d none (some ((xs : List e.den).length ≤ 281474976710656)) [] (.dat (.int .i64) .ro ((xs : List e.den).length : Int))
      | .nil => put env d none none [] (.dat (.int .i64) .ro (0 : Int))
      | _ => .bad
    | .str => match v with
      | .dat .str _ s => put env d none (some (ByteArray.size s ≤ 281474976710656)) [] (.dat (.int .i64) .ro ((ByteArray.size s : Nat) : Int))
      | _ => .bad
    | _ => .bad
  | none => .bad

def minmax (env : Env) (d : Nat) (mx : Bool) (args : List V) : Act :=
  match args with
  | [.dat (.int .i64) _ x, .dat (.int .i64) _ y] => put env d none none [] (.dat (.int .i64) .ro (cond mx (max x y) (min x y)))
  | _ => .bad

def roCut {α : Type} (xs : List α) (l? h? : Option Int) : List α := match h? with | none => xs.drop (l?.getD 0).toNat | some h => (xs.take h.toNat).drop (l?.getD 0).toNat

def sliceAct (T : Tab) (env : Env) (d : Nat) (t : TypeId) (v : V) (l? h? : Option Int) : Act :=
  match T.at t, v with
  | some ti, .ref l cut => match rdR env l, ti.ty with
    | some ⟨.sl e, .own _ _, xs⟩, .sl e' =>
      bif (e.sz == e'.sz && cutSz cut e.sz) && (cutLo cut == 0) then
        put env d (some (0 ≤ l?.getD 0 ∧ l?.getD 0 ≤ h?.getD ((cutL xs cut).length : Int) ∧ h?.getD ((cutL xs cut).length : Int) ≤ ((cutL xs cut).length : Int))) none []
          (.ref l (some ((l?.getD 0).toNat, (h?.getD ((cutL xs cut).length : Int) - l?.getD 0).toNat, e.sz)))
      else .bad
    | _, _ => .bad
  | some ti, .dat (.sl e) .ro xs => match ti.ty with
    | .sl e' => bif e.sz == e'.sz then
      put env d (some (0 ≤ l?.getD 0 ∧ l?.getD 0 ≤ h?.getD ((xs : List e.den).length : Int) ∧ h?.getD ((xs : List e.den).length : Int) ≤ ((xs : List e.den).length : Int))) none []
        (.dat (.sl e) .ro (roCut (xs : List e.den) l? h?))
      else .bad
    | _ => .bad
  | _, _ => .bad

def indexAddrAct (T : Tab) (env : Env) (d : Nat) (t : TypeId) (v : V) (n : Int) : Act :=
  match T.at t, v with
  | some ti, .ref l cut => match rdR env l, ti.ty with
    | some ⟨.sl e, .own _ _, xs⟩, .sl e' => bif e.sz == e'.sz && cutSz cut e.sz then
        put env d (some (0 ≤ n ∧ n < ((cutL xs cut).length : Int))) none []
          (.ptr ⟨l.s, (get env l.s).now, l.st ++ [(l.off, cutLo cut + n.toNat)], 0⟩)
      else .bad
    | _, _ => .bad
  | some ti, .dat (.sl e) _ xs => match ti.ty with
    | .sl e' => bif e.sz == e'.sz then
        put env d (some (0 ≤ n ∧ n < ((xs : List e.den).length : Int))) none [] (.rop e ((xs : List e.den).getD n.toNat e.dflt) 0)
      else .bad
    | _ => .bad
  | _, _ => .bad

def extractAct (env : Env) (d : Nat) (x : Operand) (i : Nat) : Act :=
  match x with
  | .tmp s => bif s == d then .bad else match (get env s).v with
    | .tup ds => match ds[i]? with
      | some ⟨t, a, y⟩ => bif a.plain then put env d none none [] (.dat t .ro y)
        else put (env.set s ((get env s).form (.tup (ds.set i ⟨t, .hole, y⟩)))) d none none [s] (.dat t a y)
      | none => .bad
    | _ => .bad
  | _ => .bad

def fieldAct (T : Tab) (env : Env) (d : Nat) (t : TypeId) (arr : Bool) (v : V) (f : Nat) : Act :=
  match T.at t, v with
  | some ti, .dat u a y => bif (!(ti.arr == arr) || !ti.ty.isPair) || !(decide (u = ti.ty)) then .bad else match ti.offs[f]? with
    | some o => match sub u a y o ((ti.offs[f + 1]?).getD u.sz - o) with
      | some dd => bif dd.a.plain && (dd.t.sz == 1) then put env d none none [] (.dat dd.t .ro dd.x) else .bad
      | none => .bad
    | none => .bad
  | some ti, .agg cs => bif !(ti.arr == arr) || !ti.ty.isPair then .bad else match ti.offs[f]? with
    | some o => bif (ti.offs[f + 1]?).getD ti.ty.sz - o != 1 then .bad else match cs[o]? with
      | some (.d t y) => put env d none none [] (.dat t .ro y)
      | some (.ref l) => put env d none none [] (.ref l none)
      | _ => .bad
    | none => .bad
  | _, _ => .bad

def convAct (T : Tab) (env : Env) (d : Nat) (t : TypeId) (v : V) : Act :=
  match T.at t, v with
  | some ti, .dat (.int k) _ n => match ti.ty with
    | .int .i64 => (match k with
      | .u64 => put env d none none [] (.dat (.int .i64) .ro (IntKind.wrap .i64 n))
      | .u8 => put env d none (some (0 ≤ n ∧ n ≤ 255)) [] (.dat (.int .i64) .ro n)
      | _ => put env d none none [] (.dat (.int .i64) .ro n))
    | .int k' => put env d none none [] (.dat (.int k') .ro (k'.wrap n))
    | _ => .bad
  | _, _ => .bad

def callOp (T : Tab) (S : SigTab) (env : Env) (d : Nat) (c : Call) : Act :=
  match c.callee with
  | .builtin b => match b, c.args.toList.map (opnd env) with
    | .len, [v] => match c.argTypes.toList with
      | [t] => lenAct T env d t v
      | _ => .bad
    | .max, vs => minmax env d true vs
    | .min, vs => minmax env d false vs
    | .append, [s, x] => match c.argTypes.toList with
      | [t, u] => bif t == u then appendAct T env d t s x else .bad
      | _ => .bad
    | _, _ => .bad
  | .value f => match opnd env f with
    | .fnc g caps => callAct S env d g (c.args.toList.map (opnd env) ++ caps.map V.ptr)
    | _ => .bad
  | _ => .bad

def ptrsOf : List V → Option (List Lk)
  | [] => some []
  | .ptr l :: vs => (ptrsOf vs).map (l :: ·)
  | _ => none

def unopAct (env : Env) (d : Nat) (op : UnOp) (v : V) : Act :=
  match op, v with
  | .not, .dat .bool _ b => yes env d (!b)
  | .neg, .dat (.int k) _ n => numb env d k (-n)
  | _, _ => .bad

def makeFuncAct (env : Env) (d : Nat) (fn : Fn) (first : List Operand) (ls : Option (List Lk)) : Act :=
  match fn, first, ls with
  | .func f, [], some ls => put env d none none [] (.fnc f ls)
  | _, _, _ => .bad

def act (T : Tab) (S : SigTab) (al : List Nat) (env : Env) (o : Oper) : Act :=
  match o.dst with
  | none => match o.op with
    | .store t a x => storeAct T env t (opnd env a) (opnd env x)
    | _ => .bad
  | some d => match o.op with
    | .move x => mvMove env d x
    | .assign x => assign env al d x
    | .pick c a b => match opnd env c with
      | .dat .bool _ cb => match opnd env a, opnd env b with
        | .dat .bool _ x, .dat .bool _ y => yes env d (cond cb x y)
        | va, vb => mv env d (cond cb va vb)
      | _ => .bad
    | .alloc t => match T.at t with
      | some ti => put env d none none [] (.box ti.ty ti.an ti.ty.dflt)
      | none => .bad
    | .box t x => match T.at t with
      | some ti => match takeV env env ti.ty ti.an (opnd env x) with
        | some q => put q.env d none none q.ws (.box ti.ty q.a q.x)
        | none => .bad
      | none => .bad
    | .load t a => match T.at t, opnd env a with
      | some ti, .ptr l => match rdP env l ti.ty.sz with
        | some dd => bif dd.t.isPair == ti.ty.isPair then mv env d (seen dd fun o => ⟨l.s, (get env l.s).now, l.st, l.off + o⟩) else .bad
        | none => .bad
      | some ti, .rop u y off => match sub u .ro y off ti.ty.sz with
        | some dd => bif dd.t.isPair == ti.ty.isPair then put env d none none [] (.dat dd.t .ro dd.x) else .bad
        | none => .bad
      | _, _ => .bad
    | .nilCheck x => match opnd env x with
      | .ptr l => bif freshP env l then mv env d (.ptr l) else .bad
      | _ => .bad
    | .fieldAddr s x f => match T.at s, opnd env x with
      | some ti, .ptr l => match ti.offs[f]? with
        | some o => bif (!ti.arr && ti.ty.isPair) && freshP env l then mv env d (.ptr ⟨l.s, l.t, l.st, l.off + o⟩) else .bad
        | none => .bad
      | some ti, .rop u y off => match ti.offs[f]? with
        | some o => bif !ti.arr && ti.ty.isPair then mv env d (.rop u y (off + o)) else .bad
        | none => .bad
      | _, _ => .bad
    | .indexAddr t x i => match opnd env i with
      | .dat (.int .i64) _ n => indexAddrAct T env d t (opnd env x) n
      | _ => .bad
    | .binOp op t x y _ => binop T env d op t (opnd env x) (opnd env y)
    | .unOp op _ x => unopAct env d op (opnd env x)
    | .convert s t x => match T.at s with
      | some _ => convAct T env d t (opnd env x)
      | none => .bad
    | .buildSlice t n parts => match T.at t with
      | some ti => match ti.ty, ti.an with
        | .sl e, .own el ae => bif (parts.size == n) && (parts.toList.map (·.1) == List.range n) && Nat.ble (n * e.sz) 16777216 then
            match takeAll env e ae env (parts.toList.map fun p => opnd env p.2) with
            | some (a, xs, e1, ws) => put e1 d none none ws (.dat (.sl e) (.own el a) xs)
            | none => .bad
          else .bad
        | _, _ => .bad
      | none => .bad
    | .build t parts => match T.at t with
      | some ti => bif !ti.ty.isPair then .bad else match takeFields env ti.offs env (parts.toList.map fun p => (p.1, opnd env p.2)) ⟨ti.ty, ti.an, ti.ty.dflt⟩ with
        | some (dd, e1, ws) => put e1 d none none ws (.dat dd.t dd.a dd.x)
        | none => .bad
      | none => .bad
    | .makeSlice t n m => match T.at t, opnd env n, opnd env m with
      | some ti, .dat (.int .i64) _ k, .dat (.int .i64) _ _ => match ti.ty, ti.an, n, m with
        | .sl e, .own el ae, .tmp n1, .tmp m1 => bif n1 == m1 then put env d (some (0 ≤ k ∧ k ≤ 4294967296)) none [] (.dat (.sl e) (.own el ae) (List.replicate k.toNat e.dflt)) else .bad
        | .sl e, .own el ae, .const (.int .i64 n1), .const (.int .i64 m1) => bif n1 == m1 then put env d (some (0 ≤ k ∧ k ≤ 4294967296)) none [] (.dat (.sl e) (.own el ae) (List.replicate k.toNat e.dflt)) else .bad
        | _, _, _, _ => .bad
      | _, _, _ => .bad
    | .slice t x lo hi mx => match mx, optInt env lo, optInt env hi with
      | none, some l?, some h? => sliceAct T env d t (opnd env x) l? h?
      | _, _, _ => .bad
    | .extract x i => extractAct env d x i
    | .field t x f => fieldAct T env d t false (opnd env x) f
    | .index t x i => match i with
      | .const (.int .i64 (.ofNat n)) => fieldAct T env d t true (opnd env x) n
      | _ => .bad
    | .makeFunc fn first captured => makeFuncAct env d fn first.toList (ptrsOf (captured.toList.map (opnd env)))
    | .call c => callOp T S env d c
    | _ => .bad

def cnd (b : Bool) (A B : Prop) : Prop := match b with | true => A | false => B

/-- how calls are spoken of -/
abbrev CallP := (g : FuncId) → (sg : Sig) → sg.argT.den → (sg.resT.den → sg.outT.den → Prop) → Prop

/-- what follows of an operation -/
def wpAct (fin : Env → List Nat → Env) (call : CallP) (a : Act) (K : Env → Prop) : Prop :=
  match a with
  | .bad => False
  | .ok none none u ws => K (fin u ws)
  | .ok (some p) none u ws => p ∧ K (fin u ws)
  | .ok none (some h) u ws => h → K (fin u ws)
  | .ok (some p) (some h) u ws => p ∧ (h → K (fin u ws))
  | .call g sg x ws k => call g sg x fun r o => K (fin (k r o) ws)

end Go.Vm
